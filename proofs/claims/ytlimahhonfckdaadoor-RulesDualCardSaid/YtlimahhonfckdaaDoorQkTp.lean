/-
  Texts of the proof, one behind the other. The conditions stand with each of them.
-/
import Derived.Below
import Derived.Scope
import Derived.Test.YtlimahhonfckdaaDoorQkDp
import Derived.Test.YtlimahhonfckdaaDoorQkYp
import Derived.Test.YtlimahhonfckdaaDoorQkIp
import Derived.Test.YtlimahhonfckdaaDoorQkEp
namespace Go.Aw
set_option linter.unusedSimpArgs false
set_option linter.unusedVariables false
open Go.RowKit

theorem rng_getD {n i : Nat} (h : i < n) : (List.range n).getD i 0 = i := by
  rw [List.getD_eq_getElem?_getD, List.getElem?_range h]; rfl
mutual
theorem ren_idV (n : Nat) : ∀ (x : V), V.bel n x = true → V.ren (List.range n) x = x
  | .d _, _ => rfl
  | .agg xs, h => by simp only [V.ren]; rw [ren_idL n xs (by simpa [V.bel] using h)]
  | .tup xs, h => by simp only [V.ren]; rw [ren_idL n xs (by simpa [V.bel] using h)]
  | .ptr id _ _, h => by simp only [V.ren]; rw [rng_getD (by simpa [V.bel] using h)]
  | .ref id _ _, h => by simp only [V.ren]; rw [rng_getD (by simpa [V.bel] using h)]
  | .nil, _ => rfl
  | .fn _ xs, h => by simp only [V.ren]; rw [ren_idL n xs (by simpa [V.bel] using h)]
  | .map id, h => by simp only [V.ren]; rw [rng_getD (by simpa [V.bel] using h)]
  | .iface _ x, h => by simp only [V.ren]; rw [ren_idV n x (by simpa [V.bel] using h)]
  | .opt _ x, h => by simp only [V.ren]; rw [ren_idV n x (by simpa [V.bel] using h)]
  | .junk, _ => rfl
theorem ren_idL (n : Nat) : ∀ (xs : List V), V.belL n xs = true → V.renL (List.range n) xs = xs
  | [], _ => rfl
  | x :: xs, h => by
    simp only [V.belL, Bool.and_eq_true] at h
    simp only [V.renL]
    rw [ren_idV n x h.1, ren_idL n xs h.2]
end
theorem ren_idB (n : Nat) (b : Blk) (h : Blk.bel n b = true) : Blk.ren (List.range n) b = b := by
  cases b with
  | cells xs => simp only [Blk.ren]; rw [ren_idL n xs (by simpa [Blk.bel] using h)]
  | vrs k rs =>
    simp only [Blk.ren]
    congr 1
    rw [List.map_congr_left (g := id), List.map_id]
    intro r hr
    simp only [Blk.bel, List.all_eq_true] at h
    exact ren_idL n r (h r hr)
  | mp es =>
    simp only [Blk.ren]
    congr 1
    rw [List.map_congr_left (g := id), List.map_id]
    intro p hp
    simp only [Blk.bel, List.all_eq_true, Bool.and_eq_true] at h
    obtain ⟨h1, h2⟩ := h p hp
    simp only [ren_idV n _ h1, ren_idV n _ h2, id]
  | it x seen m => simp only [Blk.ren]; rw [ren_idV n x (by simpa [Blk.bel] using h)]
  | _ => rfl
theorem ren_idT (n : Nat) : ∀ (l : List (Nat × V)), belTm n l = true → renTm (List.range n) l = l
  | [], _ => rfl
  | (i, x) :: l, h => by
    simp only [belTm, Bool.and_eq_true] at h
    simp only [renTm]
    rw [ren_idV n x h.1, ren_idT n l h.2]
theorem ren_keep {H X : List Blk} {tm tm' : List (Nat × V)} (hb : ∀ b, b ∈ H → Blk.bel H.length b = true) (bt : belTm H.length tm' = true) (ht : subTm tm' tm) : Ren [] (List.range H.length) ⟨tm', H⟩ ⟨tm, H ++ X⟩ := by
  refine ren_of List.nodup_range (by simp) (fun j b hj => ?_) ?_ (by simpa using bt) (by simpa using hb)
  · have hlt := (List.getElem?_eq_some_iff.1 hj).1
    refine ⟨j, List.getElem?_range hlt, ?_⟩
    rw [ren_idB _ b (hb b (List.mem_of_getElem? hj))]
    show (H ++ X)[j]? = some b
    rw [List.getElem?_append_left hlt]
    exact hj
  · show subTm (renTm (List.range H.length) tm') tm
    rw [ren_idT _ _ bt]
    exact ht
theorem ren_keepK {kp : List Nat} {H X : List Blk} {tm tm' : List (Nat × V)} (hk : ∀ i, i ∈ kp → i < H.length) (hb : belHeap H.length H = true) (bt : belTm H.length tm' = true) (ht : subTm tm' tm) : Ren kp (List.range H.length) ⟨tm', H⟩ ⟨tm, H ++ X⟩ := by
  obtain ⟨h1, _, h3, h4, h5, h6⟩ := ren_keep (X := X) (fun b hm => by
    obtain ⟨j, hj⟩ := List.getElem?_of_mem hm
    exact belHeap_get hb j b hj) bt ht
  exact ⟨h1, fun i hi => List.getElem?_range (hk i hi), h3, h4, h5, h6⟩
theorem ren_same {kp : List Nat} {n : Nat} {H : List Blk} {tm tm' : List (Nat × V)} (hn : H.length = n) (hk : ∀ i, i ∈ kp → i < n) (hb : belHeap n H = true) (bt : belTm n tm' = true) (ht : subTm tm' tm) : Ren kp (List.range n) ⟨tm', H⟩ ⟨tm, H⟩ := by
  subst hn
  have := ren_keepK (X := []) hk hb bt ht
  rwa [List.append_nil] at this
end Go.Aw

namespace Go.Aw
set_option linter.unusedSimpArgs false
set_option linter.unusedVariables false
open Go.RowKit

theorem awp_fz {P : Program} {kp : List Nat} {n : Nat} {s : St} {Q : Exit → St → Prop} {c : Code} (x : V) (h : AWP P kp n c (s.fz 3 x) Q) : AWP P kp n c s Q := by
  intro hok B a w E F h1 h2 h3
  obtain ⟨F', h4⟩ := fz_sim 3 s x F h3
  exact h hok B a w E F' h1 h2 h4
theorem awp_cells {P : Program} {kp : List Nat} {n : Nat} {s : St} {Q : Exit → St → Prop} {c : Code} (id : Nat) (xs ys : List V) (hi : s.heap[id]? = some (.cells xs)) (hl : ys.length = xs.length)
    (hv : ∀ (j : Nat) (x y : V), xs[j]? = some x → ys[j]? = some y → ∀ (E : Env) (F : Nat → Prop) (w : World) (v : Value), VR E F w x v → VR E F w y v) (h : AWP P kp n c { s with heap := s.heap.set id (.cells ys) } Q) : AWP P kp n c s Q := by
  intro hok B a w E F h1 h2 h3
  have hr := h3.rel
  have hlt := (List.getElem?_eq_some_iff.1 hi).1
  obtain ⟨e, he⟩ : ∃ e, E[id]? = some e := ⟨_, List.getElem?_eq_getElem (by rw [hr.hr.len]; exact hlt)⟩
  have hbr := hr.hr.blk id e _ he hi
  obtain ⟨q1, q2, b, cs, t, q3, q4, q5, q6⟩ := hbr
  have hbr2 : BR E F w e (.cells ys) := ⟨q1.trans hl.symm, q2, b, cs, t, q3, q4, q5.trans hl.symm, fun j y hy => by
    have hj : j < xs.length := by rw [← hl]; exact (List.getElem?_eq_some_iff.1 hy).1
    obtain ⟨v, hv1, hv2⟩ := q6 j xs[j] (List.getElem?_eq_getElem hj)
    exact ⟨v, hv1, hv j _ y (List.getElem?_eq_getElem hj) hy E F w v hv2⟩⟩
  obtain ⟨evo, hrel⟩ := hr.rewritten (w' := w) he hi rfl q3 q4 q4 rfl rfl rfl (.refl _) (Nat.le_refl _) (fun _ _ _ => rfl) hbr2
  exact h hok B a w E F h1 h2 ⟨hrel, h3.defers, h3.tm⟩
theorem vr_dfn {f : Fn} {xs : List V} {ds : List D} (hd : dOfs xs = some ds) (E : Env) (F : Nat → Prop) (w : World) (v : Value) (h : VR E F w (.fn f xs) v) : VR E F w (.d (.fn f ds)) v :=
  .d _ _ (dV_sound (by simp [dV, hd]) h)
theorem ac_args {P : Program} {f : FuncId} {xs ys : List V} {H : List Blk} {kp : List Nat} {R : V → List Blk → Prop} (h : AC P f xs H kp R) (hl : xs.length = ys.length)
    (hv : ∀ (j : Nat) (x y : V), ys[j]? = some y → xs[j]? = some x → ∀ (E : Env) (F : Nat → Prop) (w : World) (v : Value), VR E F w y v → VR E F w x v) : AC P f ys H kp R := by
  refine ⟨h.1, fun w cargs E F h1 h2 h3 hc => h.2 w cargs E F h1 h2 h3 ⟨hc.1.trans hl.symm, fun j x v hx hv' => ?_⟩⟩
  have hj : j < ys.length := by rw [← hl]; exact (List.getElem?_eq_some_iff.1 hx).1
  exact hv j x _ (List.getElem?_eq_getElem hj) hx E F w v (hc.2 j _ v (List.getElem?_eq_getElem hj) hv')
end Go.Aw

namespace Go.Aw
set_option linter.unusedSimpArgs false
set_option linter.unusedVariables false
open Go.RowKit

theorem AC.frame {P : Program} {f : FuncId} {args : List V} {H1 : List Blk} {R : V → List Blk → Prop} (h : AC P f args H1 (List.range H1.length) R) (T : List Blk) (kp : List Nat)
    (hb1 : belHeap H1.length H1 = true) (hb : V.belL H1.length args = true) (hl : ∀ x H', R x H' → H'.length = H1.length) :
    AC P f args (H1 ++ T) kp fun x H' => ∃ H1', R x H1' ∧ H' = H1' ++ T := by
  refine ⟨h.1, fun w cargs E F h1 h2 h3 h4 => ?_⟩
  have hlen : E.length = H1.length + T.length := by rw [h1.len, List.length_append]
  have e1 : ∀ i, i < H1.length → (E.take H1.length)[i]? = E[i]? := fun i hi => List.getElem?_take_of_lt hi
  have t1 : ∀ (i : Nat) (e : En), (E.take H1.length)[i]? = some e → i < H1.length ∧ E[i]? = some e := fun i e he => by
    have hi := (List.getElem?_eq_some_iff.1 he).1
    rw [List.length_take] at hi
    rw [e1 i (by omega)] at he
    exact ⟨by omega, he⟩
  have l1 : ∀ i, i < H1.length → (H1 ++ T)[i]? = H1[i]? := fun i hi => List.getElem?_append_left hi
  have ev1 : Evo E F w (E.take H1.length) F w (fun i => i < H1.length) := ⟨fun _ h => h, fun _ _ => rfl, fun i e hi he => by rw [e1 i hi]; exact he, fun _ _ h => h⟩
  have hr1 : HR (E.take H1.length) F w H1 := by
    refine ⟨by rw [List.length_take]; omega, fun id e b he hb' => ?_, fun id b e blk he hb' hh hlv => ?_, fun i j b ei ej bi bj q1 q2 q3 q4 q5 q6 q7 q8 => ?_⟩
    · obtain ⟨hi, he⟩ := t1 id e he
      exact (h1.blk id e b he (by rw [l1 id hi]; exact hb')).evo ev1 (fun i hi' => blk_bel_has (belHeap_get hb1 id b hb') hi') fun _ _ => rfl
    · obtain ⟨hi, he⟩ := t1 id e he
      exact h1.free id b e blk he hb' (by rw [l1 id hi]; exact hh) hlv
    · obtain ⟨hi, q1⟩ := t1 i ei q1
      obtain ⟨hj, q2⟩ := t1 j ej q2
      exact h1.inj i j b ei ej bi bj q1 q2 q3 q4 (by rw [l1 i hi]; exact q5) (by rw [l1 j hj]; exact q6) q7 q8
  have hcr : CR (E.take H1.length) F w args cargs := ⟨h4.1, fun j x v hx hv => (h4.2 j x v hx hv).evo ev1 (bel_has _ x (belL_mem hb (List.mem_of_getElem? hx)))⟩
  refine (h.2 w cargs (E.take H1.length) F hr1 h2 (fun i hi => List.mem_range.1 hi) hcr).mono ?_
  rintro e w' ⟨v, x, H1', E', F', rfl, hR, hrel, hx⟩
  have hn := hl x H1' hR
  have hE' : E'.length = H1.length := by rw [hrel.hr.len]; exact hn
  have ownUp : ∀ b, own (E.take H1.length) H1 b → own E (H1 ++ T) b := fun b ⟨id, e, blk, q1, q2, q3, q4⟩ => by
    obtain ⟨hi, q1⟩ := t1 id e q1
    exact ⟨id, e, blk, q1, by rw [l1 id hi]; exact q2, q3, q4⟩
  have a1 : ∀ (i : Nat) (e : En), E'[i]? = some e → (E' ++ E.drop H1.length)[i]? = some e := fun i e he => by
    rw [List.getElem?_append_left (List.getElem?_eq_some_iff.1 he).1]; exact he
  have a2 : ∀ i, ¬ i < H1.length → (E' ++ E.drop H1.length)[i]? = E[i]? := fun i hi => by
    rw [List.getElem?_append_right (by omega), List.getElem?_drop, hE', show H1.length + (i - H1.length) = i by omega]
  have a3 : ∀ (i : Nat) (e : En), E[i]? = some e → (E' ++ E.drop H1.length)[i]? = some e := fun i e he => by
    by_cases hi : i < H1.length
    · obtain ⟨e', q1, q2⟩ := hrel.keep i (List.mem_range.2 hi)
      dsimp only at q2
      rw [e1 i hi, he] at q2
      cases q2
      exact a1 i e q1
    · rw [a2 i hi]; exact he
  have b1 : ∀ i, i < H1.length → (H1' ++ T)[i]? = H1'[i]? := fun i hi => List.getElem?_append_left (by omega)
  have b2 : ∀ i, ¬ i < H1.length → (H1' ++ T)[i]? = (H1 ++ T)[i]? := fun i hi => by
    rw [List.getElem?_append_right (by omega), List.getElem?_append_right (by omega), hn]
  have c1 : ∀ (i : Nat) (e : En), i < H1.length → (E' ++ E.drop H1.length)[i]? = some e → E'[i]? = some e := fun i e hi he => by
    rwa [List.getElem?_append_left (by omega)] at he
  have nown : ∀ b, F b → ¬ own (E.take H1.length) H1 b := fun b hf ⟨id, e, blk, q1, q2, q3, q4⟩ => (hr1.free id b e blk q1 q4 q2 q3).2 hf
  have notT : ∀ (id : Nat) (e : En) (blk : Blk) (b : Nat), ¬ id < H1.length → E[id]? = some e → (H1 ++ T)[id]? = some blk → blk.live = true → e.blk = some b → ¬ own (E.take H1.length) H1 b := fun id e blk b hi q1 q2 q3 q4 ⟨id', e', blk', p1, p2, p3, p4⟩ => by
    obtain ⟨hi', p1⟩ := t1 id' e' p1
    have := h1.inj id id' b e e' blk blk' q1 p1 q4 p4 q2 (by rw [l1 id' hi']; exact p2) q3 p3
    omega
  have sameT : ∀ b, b < w.heap.size → ¬ own (E.take H1.length) H1 b → w'.heap[b]? = w.heap[b]? := fun b hb hno => hrel.same b hb hno
  have ev : Evo E F w (E' ++ E.drop H1.length) F' w' (fun _ => True) := ⟨hrel.F0, fun b hb => sameT b (h2 b hb) (nown b hb), fun i e _ he => a3 i e he, hrel.sz⟩
  have ev2 : Evo E' F' w' (E' ++ E.drop H1.length) F' w' (fun _ => True) := ⟨fun _ h => h, fun _ _ => rfl, fun i e _ he => a1 i e he, fun _ _ h => h⟩
  have nF : ∀ b, b < w.heap.size → ¬ F b → ¬ own (E.take H1.length) H1 b → ¬ F' b := fun b hb hf hno hf' => by
    rcases hrel.only b hf' with q | q | q
    · exact hf q
    · exact absurd hb (Nat.not_lt.2 q)
    · exact hno q
  refine ⟨v, x, H1' ++ T, E' ++ E.drop H1.length, F', rfl, ⟨H1', hR, rfl⟩, ⟨hrel.os, hrel.tape, hrel.output, hrel.size, hrel.F0, fun b hb => ?_, fun b q1 q2 => sameT b q1 fun q => q2 (ownUp b q), hrel.lt, ⟨?_, ?_, ?_, ?_⟩, ?_, fun i hi => ?_, hrel.sz⟩, hx.evo ev2 fun _ _ => trivial⟩
  · exact (hrel.only b hb).imp id fun q => q.imp id (ownUp b)
  · show (E' ++ E.drop H1.length).length = (H1' ++ T).length
    rw [List.length_append, List.length_append, List.length_drop]; omega
  · intro id e b he hbb
    by_cases hi : id < H1.length
    · exact (hrel.hr.blk id e b (c1 id e hi he) (by rw [← b1 id hi]; exact hbb)).evo ev2 (fun _ _ => trivial) fun _ _ => rfl
    · rw [a2 id hi] at he
      have hbb' : (H1 ++ T)[id]? = some b := by rw [← b2 id hi]; exact hbb
      cases hlv : b.live with
      | false => cases b <;> first | trivial | cases hlv
      | true => exact (h1.blk id e b he hbb').evo ev (fun _ _ => trivial) fun c hc => sameT c (h1.free id c e b he hc hbb' hlv).1 (notT id e b c hi he hbb' hlv hc)
  · intro id b e blk he hb' hh hlv
    by_cases hi : id < H1.length
    · exact hrel.hr.free id b e blk (c1 id e hi he) hb' (by rw [← b1 id hi]; exact hh) hlv
    · rw [a2 id hi] at he
      have hh' : (H1 ++ T)[id]? = some blk := by rw [← b2 id hi]; exact hh
      obtain ⟨q1, q2⟩ := h1.free id b e blk he hb' hh' hlv
      exact ⟨Nat.lt_of_lt_of_le q1 hrel.size, nF b q1 q2 (notT id e blk b hi he hh' hlv hb')⟩
  · intro i j b ei ej bi bj q1 q2 q3 q4 q5 q6 q7 q8
    have mix : ∀ (i j : Nat) (ei ej : En) (bi bj : Blk), i < H1.length → ¬ j < H1.length → (E' ++ E.drop H1.length)[i]? = some ei → (E' ++ E.drop H1.length)[j]? = some ej → ei.blk = some b → ej.blk = some b → (H1' ++ T)[i]? = some bi → (H1' ++ T)[j]? = some bj → bi.live = true → bj.live = true → False := by
      intro i j ei ej bi bj hi hj q1 q2 q3 q4 q5 q6 q7 q8
      rw [a2 j hj] at q2
      rw [b2 j hj] at q6
      have hlt := (h1.free j b ej bj q2 q4 q6 q8).1
      rcases hrel.src i b ei bi (c1 i ei hi q1) (by rw [← b1 i hi]; exact q5) q7 q3 with q | q
      · exact absurd hlt (Nat.not_lt.2 q)
      · exact notT j ej bj b hj q2 q6 q8 q4 q
    by_cases hi : i < H1.length <;> by_cases hj : j < H1.length
    · exact hrel.hr.inj i j b ei ej bi bj (c1 i ei hi q1) (c1 j ej hj q2) q3 q4 (by rw [← b1 i hi]; exact q5) (by rw [← b1 j hj]; exact q6) q7 q8
    · exact (mix i j ei ej bi bj hi hj q1 q2 q3 q4 q5 q6 q7 q8).elim
    · exact (mix j i ej ei bj bi hj hi q2 q1 q4 q3 q6 q5 q8 q7).elim
    · rw [a2 i hi] at q1
      rw [a2 j hj] at q2
      rw [b2 i hi] at q5
      rw [b2 j hj] at q6
      exact h1.inj i j b ei ej bi bj q1 q2 q3 q4 q5 q6 q7 q8
  · intro id b e blk he hh hlv hb'
    by_cases hi : id < H1.length
    · exact (hrel.src id b e blk (c1 id e hi he) (by rw [← b1 id hi]; exact hh) hlv hb').imp (fun q => q) (ownUp b)
    · rw [a2 id hi] at he
      exact .inr ⟨id, e, blk, he, by rw [← b2 id hi]; exact hh, hlv, hb'⟩
  · have hi' := h3 i hi
    obtain ⟨e, he⟩ : ∃ e, E[i]? = some e := ⟨_, List.getElem?_eq_getElem (by rw [List.length_append] at hi'; omega)⟩
    exact ⟨e, a3 i e he, he⟩
end Go.Aw

namespace Go.Aw
set_option linter.unusedSimpArgs false
set_option linter.unusedVariables false
open Go.RowKit

theorem AC.at {P : Program} {f : FuncId} {args : List V} {es : List (V × V)} {R : V → List Blk → Prop} (h : AC P f args [.mp es] [0] R) (k : Nat) (H : List Blk) (kp : List Nat) (hk : H[k]? = some (.mp es)) (hb0 : Blk.bel 0 (.mp es) = true) (hbel : V.belL 1 args = true)
    (hR : ∀ x H', R x H' → V.bel 0 x = true ∧ ∃ es', H' = [.mp es'] ∧ Blk.bel 0 (.mp es') = true) :
    AC P f (args.map (V.ren [k])) H kp fun x H' => ∃ es', R x [.mp es'] ∧ H' = H.set k (.mp es') := by
  refine ⟨h.1, fun w cargs E F h1 h2 h3 h4 => ?_⟩
  have hkl := (List.getElem?_eq_some_iff.1 hk).1
  obtain ⟨e0, he0⟩ : ∃ e, E[k]? = some e := ⟨_, List.getElem?_eq_getElem (by rw [h1.len]; exact hkl)⟩
  have no : ∀ {b : Blk} {i : Nat}, Blk.bel 0 b = true → Blk.has i b = true → False := fun hb hi => absurd (blk_bel_has hb hi) (Nat.not_lt_zero _)
  have one : ∀ (id : Nat) (e : En), [e0][id]? = some e → id = 0 ∧ e = e0 := fun id e he => by
    cases id with
    | zero => simp at he; exact ⟨rfl, he.symm⟩
    | succ id => simp at he
  have oneB : ∀ (id : Nat) (b : Blk) (es : List (V × V)), [Blk.mp es][id]? = some b → b = .mp es := fun id b es hb => by
    cases id with
    | zero => simp at hb; exact hb.symm
    | succ id => simp at hb
  have hr1 : HR [e0] F w [.mp es] := by
    refine ⟨rfl, fun id e b he hb' => ?_, fun id b e blk he hb' hh hlv => ?_, fun i j b ei ej bi bj q1 q2 _ _ _ _ _ _ => ?_⟩
    · obtain ⟨rfl, rfl⟩ := one id e he
      obtain rfl := oneB _ b _ hb'
      exact (h1.blk k e _ he0 hk).evo (ok := fun _ => False) ⟨fun _ h => h, fun _ _ => rfl, fun _ _ hf _ => hf.elim, fun _ _ h => h⟩ (fun i hi => no hb0 hi) fun _ _ => rfl
    · obtain ⟨rfl, rfl⟩ := one id e he
      obtain rfl := oneB _ blk _ hh
      exact h1.free k b e _ he0 hb' hk hlv
    · rw [(one i ei q1).1, (one j ej q2).1]
  have hcr : CR [e0] F w args cargs := by
    refine ⟨by simpa using h4.1, fun j x v hx hv => ?_⟩
    have hx' : (args.map (V.ren [k]))[j]? = some (V.ren [k] x) := by rw [List.getElem?_map, hx]; rfl
    refine ren_VR (E := E) (E' := [e0]) (r := [k]) (fun j i hj => ?_) (h4.2 j _ v hx' hv) x rfl (belL_mem hbel (List.mem_of_getElem? hx))
    cases j with
    | zero => simp at hj; subst hj; rw [he0]; rfl
    | succ j => simp at hj
  refine (h.2 w cargs [e0] F hr1 h2 (fun i hi => by simp at hi; subst hi; exact Nat.one_pos) hcr).mono ?_
  rintro e w' ⟨v, x, H1', E', F', rfl, hRx, hrel, hx⟩
  obtain ⟨hxb, es', rfl, hb'⟩ := hR x H1' hRx
  have hE' : E'[0]? = some e0 := by
    obtain ⟨e, q1, q2⟩ := hrel.keep 0 (by simp)
    dsimp only at q2
    simp at q2
    subst q2
    exact q1
  have ownUp : ∀ b, own [e0] [.mp es] b → own E H b := fun b ⟨id, e, blk, q1, q2, q3, q4⟩ => by
    obtain ⟨rfl, rfl⟩ := one id e q1
    obtain rfl := oneB _ blk _ q2
    exact ⟨k, e, _, he0, hk, q3, q4⟩
  have nown : ∀ b, F b → ¬ own [e0] [.mp es] b := fun b hf ⟨id, e, blk, q1, q2, q3, q4⟩ => (hr1.free id b e blk q1 q4 q2 q3).2 hf
  have notT : ∀ (id : Nat) (e : En) (blk : Blk) (b : Nat), id ≠ k → E[id]? = some e → H[id]? = some blk → blk.live = true → e.blk = some b → ¬ own [e0] [.mp es] b := fun id e blk b hi q1 q2 q3 q4 ⟨id', e', blk', p1, p2, p3, p4⟩ => by
    obtain ⟨rfl, rfl⟩ := one id' e' p1
    obtain rfl := oneB _ blk' _ p2
    exact hi (h1.inj id k b e e' blk _ q1 he0 q4 p4 q2 hk q3 p3)
  have sameT : ∀ b, b < w.heap.size → ¬ own [e0] [.mp es] b → w'.heap[b]? = w.heap[b]? := fun b hb hno => hrel.same b hb hno
  have ev : Evo E F w E F' w' (fun _ => True) := ⟨hrel.F0, fun b hb => sameT b (h2 b hb) (nown b hb), fun i e _ he => he, hrel.sz⟩
  have nF : ∀ b, b < w.heap.size → ¬ F b → ¬ own [e0] [.mp es] b → ¬ F' b := fun b hb hf hno hf' => by
    rcases hrel.only b hf' with q | q | q
    · exact hf q
    · exact absurd hb (Nat.not_lt.2 q)
    · exact hno q
  have g1 : ∀ (blk : Blk), (H.set k (.mp es'))[k]? = some blk → blk = .mp es' := fun blk hb => by
    rw [List.getElem?_set_self hkl] at hb
    exact (Option.some.inj hb).symm
  have g2 : ∀ (id : Nat), id ≠ k → (H.set k (.mp es'))[id]? = H[id]? := fun id hi => List.getElem?_set_ne (Ne.symm hi)
  refine ⟨v, x, H.set k (.mp es'), E, F', rfl, ⟨es', hRx, rfl⟩, ⟨hrel.os, hrel.tape, hrel.output, hrel.size, hrel.F0, fun b hb => ?_, fun b q1 q2 => sameT b q1 fun q => q2 (ownUp b q), hrel.lt, ⟨?_, ?_, ?_, ?_⟩, ?_, fun i hi => ?_, hrel.sz⟩,
    hx.evo (ok := fun _ => False) ⟨fun _ h => h, fun _ _ => rfl, fun _ _ hf _ => hf.elim, fun _ _ h => h⟩ fun i hi => absurd (bel_has 0 x hxb i hi) (Nat.not_lt_zero _)⟩
  · exact (hrel.only b hb).imp id fun q => q.imp id (ownUp b)
  · show E.length = (H.set k (.mp es')).length
    rw [List.length_set, h1.len]
  · intro id e b he hbb
    by_cases hi : id = k
    · subst hi
      obtain rfl := g1 b hbb
      rw [he0] at he
      cases he
      exact (hrel.hr.blk 0 e0 _ hE' rfl).evo (ok := fun _ => False) ⟨fun _ h => h, fun _ _ => rfl, fun _ _ hf _ => hf.elim, fun _ _ h => h⟩ (fun i hi => no hb' hi) fun _ _ => rfl
    · rw [show (H.set k (.mp es'))[id]? = H[id]? from g2 id hi] at hbb
      cases hlv : b.live with
      | false => cases b <;> first | trivial | cases hlv
      | true => exact (h1.blk id e b he hbb).evo ev (fun _ _ => trivial) fun c hc => sameT c (h1.free id c e b he hc hbb hlv).1 (notT id e b c hi he hbb hlv hc)
  · intro id b e blk he hb2 hh hlv
    by_cases hi : id = k
    · subst hi
      obtain rfl := g1 blk hh
      rw [he0] at he
      cases he
      exact hrel.hr.free 0 b e0 _ hE' hb2 rfl hlv
    · rw [show (H.set k (.mp es'))[id]? = H[id]? from g2 id hi] at hh
      obtain ⟨q1, q2⟩ := h1.free id b e blk he hb2 hh hlv
      exact ⟨Nat.lt_of_lt_of_le q1 hrel.size, nF b q1 q2 (notT id e blk b hi he hh hlv hb2)⟩
  · intro i j b ei ej bi bj q1 q2 q3 q4 q5 q6 q7 q8
    have mix : ∀ (j : Nat) (ei ej : En) (bj : Blk), j ≠ k → E[k]? = some ei → E[j]? = some ej → ei.blk = some b → ej.blk = some b → (H.set k (.mp es'))[j]? = some bj → bj.live = true → False := by
      intro j ei ej bj hj q1 q2 q3 q4 q6 q8
      rw [g2 j hj] at q6
      rw [he0] at q1
      cases q1
      exact notT j ej bj b hj q2 q6 q8 q4 ⟨0, e0, .mp es, rfl, rfl, rfl, q3⟩
    by_cases hi : i = k <;> by_cases hj : j = k
    · omega
    · subst hi
      exact (mix j ei ej bj hj q1 q2 q3 q4 q6 q8).elim
    · subst hj
      exact (mix i ej ei bi hi q2 q1 q4 q3 q5 q7).elim
    · rw [show (H.set k (.mp es'))[i]? = H[i]? from g2 i hi] at q5
      rw [show (H.set k (.mp es'))[j]? = H[j]? from g2 j hj] at q6
      exact h1.inj i j b ei ej bi bj q1 q2 q3 q4 q5 q6 q7 q8
  · intro id b e blk he hh hlv hb2
    by_cases hi : id = k
    · subst hi
      obtain rfl := g1 blk hh
      rw [he0] at he
      cases he
      exact (hrel.src 0 b e0 _ hE' rfl hlv hb2).imp (fun q => q) (ownUp b)
    · rw [show (H.set k (.mp es'))[id]? = H[id]? from g2 id hi] at hh
      exact .inr ⟨id, e, blk, he, hh, hlv, hb2⟩
  · have hi' := h3 i hi
    obtain ⟨e, he⟩ : ∃ e, E[i]? = some e := ⟨_, List.getElem?_eq_getElem (by rw [h1.len]; exact hi')⟩
    exact ⟨e, he, he⟩
end Go.Aw

namespace Go.Aw
set_option linter.unusedSimpArgs false
set_option linter.unusedVariables false
open Go.RowKit

variable {P : Program}
section
variable {ops : Array Oper} {Q : Exit → Act → World → Prop} {T : Nat → Bool} {wb : World}
def KeepS (wb w : World) : Prop := Keep wb w ∧ wb.heap.size ≤ w.heap.size
theorem wpOp_putKB {j : Nat} {oi oj : Oper} {v : Value} (hj : ops[j]? = some oj) (hap : oi.apart ops oj = true)
    (hsi : ∀ cs b, oi.op ≠ .select cs b) (hsj : ∀ cs b, oj.op ≠ .select cs b)
    (hQ : ∀ c a w, Q (.panic c) (a.put oi.dst v) w → Q (.panic c) a w) {K : Act → World → Prop} {a : Act} {w wb : World}
    (hy : YieldsK P ops wb oi v a) (h : wpOp P ops Q j K (a.put oi.dst v) w) :
    wpOp P ops Q j (fun a' w' => YieldsK P ops wb oi v a' ∧ K (a'.put oi.dst v) w') a w := by
  obtain ⟨h1, h2, h3⟩ := Oper.apart_spec hap
  have keep : ∀ (a : Act), YieldsK P ops wb oi v a → ∀ u, YieldsK P ops wb oi v (a.put oj.dst u) := fun a hy u =>
    hy.of_same (execOp_put oi hsi a oj.dst u h3) (wanted_put oi a oj.dst u h3)
  have keepD : ∀ d, YieldsK P ops wb oi v { a with defers := d :: a.defers } := fun d => hy.of_same rfl rfl
  unfold wpOp at *
  simp only [hj] at *
  rw [wanted_put oj a oi.dst v h1] at h
  split
  · rename_i hw
    simp only [hw, if_true] at h
    rcases h with h | ⟨hasks, hlets⟩
    case inr => exact .inr ⟨by unfold Oper.asks at *; rw [execOp_put oj hsj a oi.dst v h1] at hasks; exact hasks, hlets⟩
    refine .inl ?_
    unfold Oper.wp at *
    rw [execOp_put oj hsj a oi.dst v h1] at h
    generalize (execOp a.eval oj).run P w = r at *
    cases r with
    | ok n w' =>
      cases n <;> simp only [Oper.upon] at h ⊢
      case value u => exact ⟨keep a hy u, by rw [← Act.put_comm a v u h2]; exact h⟩
      case skip => exact ⟨keep a hy _, by rw [← Act.put_comm a v undef h2]; exact h⟩
      case defer d =>
        refine ⟨keep _ (keepD d) _, ?_⟩
        rw [← Act.put_comm _ v undef h2, ← Act.put_defers]
        exact h
      case enter f args =>
        refine Calls.mono h fun e w'' he => ?_
        cases e with
        | returned u => exact ⟨keep a hy u, by rw [← Act.put_comm a v u h2]; exact he⟩
        | panicked c => exact hQ _ _ _ he
        | outgrown => exact he
      case row row args => exact Rows.mono h fun u w'' he => ⟨keep a hy u, by rw [← Act.put_comm a v u h2]; exact he⟩
    | halt x w' =>
      cases x <;> simp only [Oper.upon] at h ⊢
      case panic u => exact hQ _ _ _ h
  · rename_i hw
    simp only [hw] at h
    exact ⟨keep a hy _, by rw [← Act.put_comm a v undef h2]; exact h⟩

def wpAnyB (P : Program) (T : Nat → Bool) (wb : World) (ops : Array Oper) (Q : Exit → Act → World → Prop) : Nat → Array Bool → Act → World → Prop
  | 0, listed, a, w => Region.ready .any ops listed = [] ∧ Q .normal a w
  | fuel + 1, listed, a, w =>
    (Region.ready .any ops listed = [] → Q .normal a w) ∧
    ∀ i ∈ Region.ready .any ops listed, wpOp P ops Q i (fun a' w' => (T i = true ∨ KeepS wb w') ∧ wpAnyB P T wb ops Q fuel (listed.setIfInBounds i true) a' w') a w
theorem wpAny_of_B : ∀ (fuel : Nat) (listed : Array Bool) (a : Act) (w : World), wpAnyB P T wb ops Q fuel listed a w → wpAny P .any ops Q fuel listed a w
  | 0, _, _, _, h => h
  | fuel + 1, _, _, _, h => ⟨h.1, fun i hi => wpOp_mono (fun a' w' h' => wpAny_of_B fuel _ a' w' h'.2) (h.2 i hi)⟩
theorem wpAnyB_first {i : Nat} {oi : Oper} {v : Value} (hi : ops[i]? = some oi) (hsel : ∀ (j : Nat) (o : Oper) cs b, ops[j]? = some o → o.op ≠ .select cs b)
    (hQ : ∀ c a w, Q (.panic c) (a.put oi.dst v) w → Q (.panic c) a w) :
    ∀ (fuel : Nat) (listed : Array Bool) (a : Act) (w : World),
      (∀ j oj, ops[j]? = some oj → j ≠ i → listed.getD j true = false → (∀ e ∈ oj.after, Region.binds .any e = true → e.on ≠ i) → oi.apart ops oj = true ∧ T j = false) →
      i ∈ Region.ready .any ops listed → KeepS wb w → YieldsK P ops wb oi v a →
      wpAnyB P T wb ops Q fuel (listed.setIfInBounds i true) (a.put oi.dst v) w → wpAnyB P T wb ops Q (fuel + 1) listed a w := by
  intro fuel
  induction fuel with
  | zero =>
    intro listed a w _ hr hkb hy H
    refine ⟨fun h => (by rw [h] at hr; cases hr), fun j hj => ?_⟩
    by_cases hji : j = i
    · subst hji; exact (hy.later hkb.1).wpOp hi ⟨.inr hkb, H⟩
    · have := ready_mono hj hji
      rw [H.1] at this
      cases this
  | succ fuel ih =>
    intro listed a w hfree hr hkb hy H
    refine ⟨fun h => (by rw [h] at hr; cases hr), fun j hj => ?_⟩
    by_cases hji : j = i
    · subst hji; exact (hy.later hkb.1).wpOp hi ⟨.inr hkb, H⟩
    · have h1 := H.2 j (ready_mono hj hji)
      obtain ⟨hjun, oj, hoj, hall⟩ := mem_ready.1 hj
      have hnot : ∀ e ∈ oj.after, Region.binds .any e = true → e.on ≠ i := fun e he hb heq => by
        have h1 := hall e he hb
        have h0 := (mem_ready.1 hr).1
        rw [heq] at h1
        rcases Nat.lt_or_ge i listed.size with h' | h'
        · simp [h'] at h0 h1; rw [h0] at h1; cases h1
        · simp [Array.getElem?_eq_none h'] at h1
      obtain ⟨hap, hnt⟩ := hfree j oj hoj hji hjun hnot
      have h2 := wpOp_putKB hoj hap (fun cs b => hsel i oi cs b hi) (fun cs b => hsel j oj cs b hoj) hQ hy h1
      have hfree' : ∀ k ok, ops[k]? = some ok → k ≠ i → (listed.setIfInBounds j true).getD k true = false →
          (∀ e ∈ ok.after, Region.binds .any e = true → e.on ≠ i) → oi.apart ops ok = true ∧ T k = false := fun k ok hk hki hun hno => by
        refine hfree k ok hk hki ?_ hno
        by_cases hjk : j = k
        · subst hjk; exact hjun
        · rw [getD_set_ne true hjk] at hun; exact hun
      refine wpOp_mono (fun a' w' h3 => ?_) h2
      obtain ⟨g1, g2, g3⟩ := h3
      have hkw : KeepS wb w' := by
        rcases g2 with g2 | g2
        · rw [hnt] at g2; cases g2
        · exact g2
      refine ⟨.inr hkw, ih (listed.setIfInBounds j true) a' w' hfree' (ready_mono hr (Ne.symm hji)) hkw g1 ?_⟩
      rw [Array.setIfInBounds_comm _ _ hji]
      exact g3

theorem wpAnyB_firstS {i : Nat} {oi : Oper} {v : Value} (S : List Nat) (hi : ops[i]? = some oi) (hsel : ∀ (j : Nat) (o : Oper) cs b, ops[j]? = some o → o.op ≠ .select cs b)
    (hQ : ∀ c a w, Q (.panic c) (a.put oi.dst v) w → Q (.panic c) a w) :
    ∀ (fuel : Nat) (listed : Array Bool) (a : Act) (w : World),
      (∀ j oj, ops[j]? = some oj → j ≠ i → listed.getD j true = false → j ∉ S → oi.apart ops oj = true ∧ T j = false) →
      (∀ j, j ∈ S → listed.getD j true = false ∧ ∃ oj e, ops[j]? = some oj ∧ e ∈ oj.after ∧ Region.binds .any e = true ∧ (e.on = i ∨ e.on ∈ S)) →
      i ∈ Region.ready .any ops listed → KeepS wb w → YieldsK P ops wb oi v a →
      wpAnyB P T wb ops Q fuel (listed.setIfInBounds i true) (a.put oi.dst v) w → wpAnyB P T wb ops Q (fuel + 1) listed a w := by
  intro fuel
  induction fuel with
  | zero =>
    intro listed a w _ _ hr hkb hy H
    refine ⟨fun h => (by rw [h] at hr; cases hr), fun j hj => ?_⟩
    by_cases hji : j = i
    · subst hji; exact (hy.later hkb.1).wpOp hi ⟨.inr hkb, H⟩
    · have := ready_mono hj hji
      rw [H.1] at this
      cases this
  | succ fuel ih =>
    intro listed a w hfree hS hr hkb hy H
    refine ⟨fun h => (by rw [h] at hr; cases hr), fun j hj => ?_⟩
    by_cases hji : j = i
    · subst hji; exact (hy.later hkb.1).wpOp hi ⟨.inr hkb, H⟩
    · have h1 := H.2 j (ready_mono hj hji)
      obtain ⟨hjun, oj, hoj, hall⟩ := mem_ready.1 hj
      have notOn : ∀ k, listed.getD k true = false → ∀ e ∈ oj.after, Region.binds .any e = true → e.on ≠ k := fun k h0 e he hb heq => by
        have h1 := hall e he hb
        rw [heq] at h1
        rcases Nat.lt_or_ge k listed.size with h' | h'
        · simp [h'] at h0 h1; rw [h0] at h1; cases h1
        · simp [Array.getElem?_eq_none h'] at h1
      have hjS : j ∉ S := fun hjS => by
        obtain ⟨_, ok, e, hok, he, hb, hon⟩ := hS j hjS
        rw [hoj] at hok
        cases hok
        rcases hon with hon | hon
        · exact notOn i (mem_ready.1 hr).1 e he hb hon
        · exact notOn e.on (hS _ hon).1 e he hb rfl
      obtain ⟨hap, hnt⟩ := hfree j oj hoj hji hjun hjS
      have h2 := wpOp_putKB hoj hap (fun cs b => hsel i oi cs b hi) (fun cs b => hsel j oj cs b hoj) hQ hy h1
      have hfree' : ∀ k ok, ops[k]? = some ok → k ≠ i → (listed.setIfInBounds j true).getD k true = false → k ∉ S → oi.apart ops ok = true ∧ T k = false := fun k ok hk hki hun hno => by
        refine hfree k ok hk hki ?_ hno
        by_cases hjk : j = k
        · subst hjk; exact hjun
        · rw [getD_set_ne true hjk] at hun; exact hun
      have hS' : ∀ k, k ∈ S → (listed.setIfInBounds j true).getD k true = false ∧ ∃ oj e, ops[k]? = some oj ∧ e ∈ oj.after ∧ Region.binds .any e = true ∧ (e.on = i ∨ e.on ∈ S) := fun k hk => by
        obtain ⟨q1, q2⟩ := hS k hk
        have hjk : j ≠ k := fun e => hjS (e ▸ hk)
        exact ⟨by rw [getD_set_ne true hjk]; exact q1, q2⟩
      refine wpOp_mono (fun a' w' h3 => ?_) h2
      obtain ⟨g1, g2, g3⟩ := h3
      have hkw : KeepS wb w' := by
        rcases g2 with g2 | g2
        · rw [hnt] at g2; cases g2
        · exact g2
      refine ⟨.inr hkw, ih (listed.setIfInBounds j true) a' w' hfree' hS' (ready_mono hr (Ne.symm hji)) hkw g1 ?_⟩
      rw [Array.setIfInBounds_comm _ _ hji]
      exact g3

theorem freeB_first {i : Nat} {oi : Oper} {v : Value} (hi : ops[i]? = some oi) (hsel : ∀ (j : Nat) (o : Oper) cs b, ops[j]? = some o → o.op ≠ .select cs b)
    (hQ : ∀ c a w, Q (.panic c) (a.put oi.dst v) w → Q (.panic c) a w) (fuel : Nat) (listed : Array Bool) (a : Act) (w : World) (h : freeU T ops listed i = true) (hr : i ∈ Region.ready .any ops listed) (hkb : KeepS wb w) (hy : YieldsK P ops wb oi v a)
    (H : wpAnyB P T wb ops Q fuel (listed.setIfInBounds i true) (a.put oi.dst v) w) : wpAnyB P T wb ops Q (fuel + 1) listed a w := by
  unfold freeU at h
  rw [Bool.or_eq_true] at h
  rcases h with h | h
  · exact wpAnyB_first hi hsel hQ fuel listed a w (freeU1_spec hi h) hr hkb hy H
  · generalize hS : blkd ops listed i (List.range ops.size) [] = S at h
    have hb := blkd_spec (ops := ops) (listed := listed) (i := i) (List.range ops.size) [] (fun k hk => by cases hk)
    rw [hS] at hb
    refine wpAnyB_firstS S hi hsel hQ fuel listed a w (fun j oj hj hji hun hno => ?_) hb hr hkb hy H
    unfold freeU2 at h
    rw [hi] at h
    dsimp only at h
    have hlt : j < ops.size := (Array.getElem?_eq_some_iff.1 hj).1
    have := List.all_eq_true.1 h j (List.mem_range.2 hlt)
    rw [hj] at this
    simp only [Bool.or_eq_true, beq_iff_eq, Bool.and_eq_true, Bool.not_eq_true', List.contains_iff_mem] at this
    rcases this with ((h1 | h1) | h1) | h1
    · exact absurd h1 hji
    · rw [hun] at h1; cases h1
    · exact absurd h1 hno
    · exact h1

def quietB (T : Nat → Bool) (ops : Array Oper) : List Nat → Array Bool → Bool
  | [], _ => true
  | i :: r, listed =>
    (match ops[i]? with
     | none => false
     | some o => kindQ o.op && (Region.ready .any ops listed).contains i && freeU T ops listed i) && quietB T ops r (listed.setIfInBounds i true)
theorem drawB_quiet {B : Base} {n : Nat} (hd : dstsOk n ops = true) (hsel : Region.noSelect ops = true) (hQ : ∀ c a w, ¬ Q (.panic c) a w) (fuel : Nat) : ∀ (l : List Nat) (listed : Array Bool) (s : St) (a : Act) (E : Env) (F : Nat → Prop) (K : St → Prop), a.tmps.size = n → Sim B s a wb E F →
    OpsVC P B.keep ops (l.filterMap (ops[·]?)) s K → quietB T ops l listed = true →
    (∀ a' s', K s' → Sim B s' a' wb E F → a'.tmps.size = n → wpAnyB P T wb ops Q fuel (setAll l listed) a' wb) → wpAnyB P T wb ops Q (fuel + l.length) listed a wb
  | [], listed, s, a, E, F, K, hn, hs, h, hok, hq => hq a s h hs hn
  | i :: l, listed, s, a, E, F, K, hn, hs, h, hok, hq => by
    simp only [quietB, Bool.and_eq_true] at hok
    obtain ⟨hok, hrest⟩ := hok
    split at hok
    · cases hok
    rename_i o ho
    simp only [List.filterMap_cons, ho, OpsVC] at h
    simp only [Bool.and_eq_true] at hok
    have ih := fun s a hn hs h => drawB_quiet hd hsel hQ fuel l (listed.setIfInBounds i true) s a E F K hn hs h hrest hq
    rcases op_sound (Q := Q) hs (fun d hd' => by rw [hn]; exact dstsOk_spec hd ho d hd') h with ⟨v, s', hK, hs', hw⟩ | ⟨hnq, hw⟩
    · have ih' := ih s' _ (by rw [size_put]; exact hn) hs' hK
      have hy : YieldsK P ops wb o v a := hw
      exact freeB_first ho (noSel hsel) (fun c a w hh => absurd hh (hQ c _ w)) (fuel + l.length) listed a wb hok.2 (by simpa using hok.1.2) ⟨Keep.refl wb, Nat.le_refl _⟩ hy ih'
    · rw [hnq] at hok
      cases hok.1.1

def tailB (ops : Array Oper) : List Nat → Array Bool → Bool
  | [], listed => (Region.ready .any ops listed).isEmpty
  | i :: r, listed => (ops[i]?).isSome && Region.ready .any ops listed == [i] && tailB ops r (listed.setIfInBounds i true)
theorem Sim.keepS {B : Base} {s : St} {a : Act} {w : World} {E : Env} {F : Nat → Prop} (hs : Sim B s a w E F) (ho : ∀ b, ¬ B.own b) : KeepS B.w0 w :=
  ⟨fun b hb => hs.rel.same b hb (ho b), hs.rel.size⟩
theorem drawB_tail {B : Base} {n : Nat} (hd : dstsOk n ops = true) (hw0 : B.w0 = wb) (ho : ∀ b, ¬ B.own b) : ∀ (l : List Nat) (listed : Array Bool) (s : St) (a : Act) (w : World) (E : Env) (F : Nat → Prop) (K : St → Prop), a.tmps.size = n → Sim B s a w E F →
    OpsVC P B.keep ops (l.filterMap (ops[·]?)) s K → tailB ops l listed = true →
    (∀ a' w' s' E' F', K s' → Sim B s' a' w' E' F' → a'.tmps.size = n → Q .normal a' w') → wpAnyB P T wb ops Q l.length listed a w
  | [], listed, s, a, w, E, F, K, hn, hs, h, hok, hq => ⟨by simpa [tailB] using hok, hq a w s E F h hs hn⟩
  | i :: l, listed, s, a, w, E, F, K, hn, hs, h, hok, hq => by
    simp only [tailB, Bool.and_eq_true, beq_iff_eq] at hok
    obtain ⟨⟨hsome, hr⟩, hrest⟩ := hok
    obtain ⟨o, hoi⟩ := Option.isSome_iff_exists.1 hsome
    simp only [List.filterMap_cons, hoi, OpsVC] at h
    have ih := fun s a w E F hn hs h => drawB_tail hd hw0 ho l (listed.setIfInBounds i true) s a w E F K hn hs h hrest hq
    have ks : ∀ {s a w E F}, Sim B s a w E F → T i = true ∨ KeepS wb w := fun hs => .inr (hw0 ▸ hs.keepS ho)
    refine ⟨(fun h0 => by rw [hr] at h0; cases h0), fun j hj => ?_⟩
    rw [hr] at hj
    simp at hj
    subst hj
    rcases op_sound (Q := Q) hs (fun d hd' => by rw [hn]; exact dstsOk_spec hd hoi d hd') h with ⟨v, s', hK, hs', hw⟩ | ⟨_, hw⟩
    · have hy : YieldsK P ops w o v a := hw
      exact hy.wpOp hoi ⟨ks hs, ih s' _ w E F (by rw [size_put]; exact hn) hs' hK⟩
    · unfold wpOp
      simp only [hoi]
      rcases hw with ⟨hw, hwp⟩ | ⟨hw, s', F', hK, hs'⟩
      · rw [hw, if_pos rfl]
        refine .inl (Oper.wp_mono (fun a' w' ⟨_, v, s', E', F', ha, hK, hs'⟩ => ?_) hwp)
        subst ha
        exact ⟨ks hs', ih s' _ w' E' F' (by rw [size_put]; exact hn) hs' hK⟩
      · rw [hw]
        exact ⟨ks hs, ih s' _ w E F' (by rw [size_put]; exact hn) hs' hK⟩

def hid (H : List Blk) : List Blk := H.map fun _ => Blk.gone
theorem hid_sim {B : Base} {s : St} {a : Act} {w : World} {E : Env} {F : Nat → Prop} (hs : Sim B s a w E F) :
    Sim ⟨w, F, fun _ => False, E, List.range s.heap.length, B.ds⟩ ⟨s.tm, hid s.heap⟩ a w E F := by
  have hg : ∀ (id : Nat) (b : Blk), (hid s.heap)[id]? = some b → b = .gone := fun id b h => by
    simp only [hid, List.getElem?_map, Option.map_eq_some_iff] at h
    obtain ⟨_, _, h⟩ := h
    exact h.symm
  refine ⟨⟨rfl, rfl, .refl w, Nat.le_refl _, fun b h => h, fun b h => .inl h, fun b _ _ => rfl, hs.rel.lt, ⟨?_, ?_, ?_, ?_⟩, ?_, ?_, fun b n h => h⟩, hs.defers, hs.tm⟩
  · show E.length = (hid s.heap).length
    rw [hs.rel.hr.len, hid, List.length_map]
  · intro id e b _ h
    rw [hg id b h]; trivial
  · intro id b e blk _ _ h hl
    rw [hg id blk h] at hl; cases hl
  · intro i j b ei ej bi bj _ _ _ _ h _ hl
    rw [hg i bi h] at hl; cases hl
  · intro id b e blk _ h hl
    rw [hg id blk h] at hl; cases hl
  · intro i hi
    have hi := List.mem_range.1 hi
    rw [← hs.rel.hr.len] at hi
    exact ⟨E[i], List.getElem?_eq_getElem hi, List.getElem?_eq_getElem hi⟩
theorem unhid {B : Base} {t u : St} {a a2 : Act} {w w2 : World} {E E2 : Env} {F F2 : Nat → Prop} (hs : Sim B t a w E F)
    (h2 : Sim ⟨w, F, fun _ => False, E, List.range t.heap.length, B.ds⟩ u a2 w2 E2 F2) : Sim B ⟨u.tm, t.heap ++ u.heap.drop t.heap.length⟩ a2 w2 E2 F2 := by
  have r := hs.rel
  have r2 := h2.rel
  have hkeep : ∀ (j : Nat) (e : En), E[j]? = some e → E2[j]? = some e := fun j e h => by
    have hj : j < t.heap.length := by rw [← r.hr.len]; exact (List.getElem?_eq_some_iff.1 h).1
    obtain ⟨e', q1, q2⟩ := r2.keep j (List.mem_range.2 hj)
    dsimp only at q2
    rw [h] at q2
    cases q2
    exact q1
  have hlen : t.heap.length ≤ u.heap.length := by
    rw [← r2.hr.len]
    rcases Nat.eq_zero_or_pos t.heap.length with h | h
    · omega
    · have hE : t.heap.length - 1 < E.length := by rw [r.hr.len]; omega
      have := hkeep _ _ (List.getElem?_eq_getElem hE)
      have := (List.getElem?_eq_some_iff.1 this).1
      omega
  have hnF : ∀ b, b < w.heap.size → ¬ F b → ¬ F2 b := fun b hb hf hf2 => by
    rcases r2.only b hf2 with h | h | h
    · exact hf h
    · exact absurd hb (Nat.not_lt.2 h)
    · exact h
  have hsame : ∀ b, b < w.heap.size → w2.heap[b]? = w.heap[b]? := fun b hb => r2.same b hb fun h => h
  have evo : Evo E F w E2 F2 w2 (fun _ => True) := ⟨r2.F0, fun b hb => hsame b (r.lt b hb), fun j e _ h => hkeep j e h, r2.sz⟩
  have hold : ∀ (id : Nat) (b : Blk), id < t.heap.length → (t.heap ++ u.heap.drop t.heap.length)[id]? = some b → t.heap[id]? = some b := fun id b hi h => by
    rwa [List.getElem?_append_left hi] at h
  have hnew : ∀ (id : Nat) (b : Blk), ¬ id < t.heap.length → (t.heap ++ u.heap.drop t.heap.length)[id]? = some b → u.heap[id]? = some b := fun id b hi h => by
    rw [List.getElem?_append_right (by omega), List.getElem?_drop, show t.heap.length + (id - t.heap.length) = id by omega] at h
    exact h
  have hEold : ∀ (id : Nat) (e : En), id < t.heap.length → E2[id]? = some e → E[id]? = some e := fun id e hi h => by
    rw [← r.hr.len] at hi
    have := hkeep id _ (List.getElem?_eq_getElem hi)
    rw [h] at this
    rw [List.getElem?_eq_getElem hi]
    exact this.symm
  refine ⟨⟨r2.os.trans r.os, r2.tape.trans r.tape, r2.output.trans r.output, Nat.le_trans r.size r2.size, fun b hb => r2.F0 b (r.F0 b hb), fun b hb => ?_, fun b h1 h2 => (hsame b (Nat.lt_of_lt_of_le h1 r.size)).trans (r.same b h1 h2), r2.lt, ⟨?_, ?_, ?_, ?_⟩, ?_, fun i hi => ?_, fun b n h => r2.sz b n (r.sz b n h)⟩, h2.defers, h2.tm⟩
  · rcases r2.only b hb with h | h | h
    · exact r.only b h
    · exact .inr (.inl (Nat.le_trans r.size h))
    · exact h.elim
  · show E2.length = (t.heap ++ u.heap.drop t.heap.length).length
    rw [r2.hr.len, List.length_append, List.length_drop]; omega
  · intro id e b he hb
    by_cases hi : id < t.heap.length
    · have h1 := hold id b hi hb
      have h3 := hEold id e hi he
      have h4 := r.hr.blk id e b h3 h1
      cases hl : b.live with
      | false => cases b <;> first | trivial | cases hl
      | true => exact h4.evo evo (fun _ _ => trivial) fun c hc => hsame c (r.hr.free id c e b h3 hc h1 hl).1
    · exact r2.hr.blk id e b he (hnew id b hi hb)
  · intro id b e blk he hb h hl
    by_cases hi : id < t.heap.length
    · obtain ⟨q1, q2⟩ := r.hr.free id b e blk (hEold id e hi he) hb (hold id blk hi h) hl
      exact ⟨Nat.lt_of_lt_of_le q1 r2.size, hnF b q1 q2⟩
    · exact r2.hr.free id b e blk he hb (hnew id blk hi h) hl
  · intro i j b ei ej bi bj h1 h2' h3 h4 h5 h6 h7 h8
    by_cases hi : i < t.heap.length <;> by_cases hj : j < t.heap.length
    · exact r.hr.inj i j b ei ej bi bj (hEold i ei hi h1) (hEold j ej hj h2') h3 h4 (hold i bi hi h5) (hold j bj hj h6) h7 h8
    · have q1 := (r.hr.free i b ei bi (hEold i ei hi h1) h3 (hold i bi hi h5) h7).1
      rcases r2.src j b ej bj h2' (hnew j bj hj h6) h8 h4 with h | h
      · exact absurd q1 (Nat.not_lt.2 h)
      · exact h.elim
    · have q1 := (r.hr.free j b ej bj (hEold j ej hj h2') h4 (hold j bj hj h6) h8).1
      rcases r2.src i b ei bi h1 (hnew i bi hi h5) h7 h3 with h | h
      · exact absurd q1 (Nat.not_lt.2 h)
      · exact h.elim
    · exact r2.hr.inj i j b ei ej bi bj h1 h2' h3 h4 (hnew i bi hi h5) (hnew j bj hj h6) h7 h8
  · intro id b e blk he h hl hb
    by_cases hi : id < t.heap.length
    · exact r.src id b e blk (hEold id e hi he) (hold id blk hi h) hl hb
    · rcases r2.src id b e blk he (hnew id blk hi h) hl hb with q | q
      · exact .inl (Nat.le_trans r.size q)
      · exact q.elim
  · obtain ⟨e, q1, q2⟩ := r.keep i hi
    exact ⟨e, hkeep i e q1, q2⟩
theorem awp_drawB {kp : List Nat} {n : Nat} {s : St} {Qs : Exit → St → Prop} {id : Nat} (l tl : List Nat) (hm : P.follows .mixedOrders = true)
    (hc : (Region.noSelect ops && quietB (fun _ => false) ops l (Array.replicate ops.size false) && tailB ops tl (setAll l (Array.replicate ops.size false))) = true) (hl : tl.length + l.length = ops.size)
    (h : ∀ K : St → Prop, (∀ t, Qs .normal t → K t) → contRun P kp ops (.vc (l.filterMap (ops[·]?))) s fun t => contRun P (List.range t.heap.length) ops (.vc (tl.filterMap (ops[·]?))) ⟨t.tm, hid t.heap⟩ fun u => K ⟨u.tm, t.heap ++ u.heap.drop t.heap.length⟩) : AWP P kp n (.region id ops true) s Qs := by
  intro hok B a w E F h1 h2 h3
  subst h1
  simp only [Bool.and_eq_true] at hc
  refine wp_region_any hm (wpAny_of_B (T := fun _ => false) (wb := w.drew) _ _ _ _ ?_)
  obtain ⟨hc1, hc2⟩ := hc
  generalize Array.replicate ops.size false = lst at *
  rw [← hl]
  refine drawB_quiet (n := n) hok hc1.1 ?_ tl.length l _ s a E F _ h2 h3.drew (h _ fun t ht => ht) hc1.2 ?_
  · intro c a w hh
    exact hh.1 c rfl
  · intro a1 s1 hK hs hn
    refine drawB_tail (B := ⟨_, F, fun _ => False, E, List.range s1.heap.length, B.ds⟩) (n := n) hok rfl (fun _ h => h) tl _ _ _ _ E F _ hn (hid_sim hs) hK hc2 ?_
    intro a2 w2 s2 E2 F2 hK2 hs2 hn2
    exact ⟨by simp, by simp, _, E2, F2, hK2, unhid hs hs2, hn2⟩
theorem awpF_drawB {kp : List Nat} {n : Nat} {s : St} {Qs : Exit → St → Prop} {id : Nat} {ops : Array Oper} (l tl : List Nat) (hm : P.follows .mixedOrders = true)
    (hc : (Region.noSelect ops && quietB (fun _ => false) ops l (Array.replicate ops.size false) && tailB ops tl (setAll l (Array.replicate ops.size false))) = true) (hl : (tl.length + l.length == ops.size) = true)
    (h : ∀ K : St → Prop, (∀ t, Qs .normal t → K t) → contRun P kp ops (.vc (l.filterMap (ops[·]?))) s fun t => contRun P (List.range t.heap.length) ops (.vc (tl.filterMap (ops[·]?))) ⟨t.tm, hid t.heap⟩ fun u => K ⟨u.tm, t.heap ++ u.heap.drop t.heap.length⟩) : AWP P kp n (.region id ops true) s Qs :=
  awp_drawB l tl hm hc (by simpa using hl) h
end
end Go.Aw

namespace Go.Aw
set_option linter.unusedSimpArgs false
set_option linter.unusedVariables false
open Go.RowKit
variable {P : Program}

def litD : D → Option Value
  | .int k n => some (.int k n)
  | .bool b => some (.bool b)
  | .str s => some (.string s)
  | _ => none
theorem lit_of {E : Env} {F : Nat → Prop} {w : World} {x : D} {v u : Value} (hx : litD x = some u) (h : VR E F w (ofD x) v) : v = u := by
  cases x <;> simp only [litD, Option.some.injEq, reduceCtorEq] at hx <;> subst hx <;> simp only [ofD] at h <;> cases h <;> rename_i h <;> cases h <;> rfl
theorem lits_of {E : Env} {F : Nat → Prop} {w : World} {args : List D} {cargs : Array Value} {vs : List Value} (hv : args.map litD = vs.map some) (h : CR E F w (args.map ofD) cargs) : cargs = vs.toArray := by
  obtain ⟨h1, h2⟩ := h
  have hl : args.length = vs.length := by simpa using congrArg List.length hv
  apply Array.ext_getElem?
  intro i
  by_cases hi : i < args.length
  · have e1 : args[i]? = some args[i] := List.getElem?_eq_getElem hi
    have hc : i < cargs.size := by simpa [h1] using hi
    have hvi : i < vs.length := by omega
    have e2 : litD args[i] = some vs[i] := by
      have := congrArg (fun l => l[i]?) hv
      simp only [List.getElem?_map, e1, List.getElem?_eq_getElem hvi, Option.map_some, Option.some.injEq] at this
      exact this
    have := lit_of e2 (h2 i (ofD args[i]) cargs[i] (by simp [e1]) (by simp [hc]))
    simp [hc, hvi, this]
  · have hc : ¬ i < cargs.size := by simpa [h1] using hi
    rw [Array.getElem?_eq_none (by omega), List.getElem?_toArray, List.getElem?_eq_none (by omega)]

theorem pd_stays {f : FuncId} {args : List D} {x0 : V} {vs : List Value} (hc : callable P f) (hv : args.map litD = vs.map some)
    (h : ∀ (w : World) (F : Nat → Prop), FO F w → Calls P f vs.toArray w fun e w' => ∃ v, e = .returned v ∧ VR [] F w' x0 v ∧ Below w.heap.size w w') : PD P f args x0 := by
  refine ⟨hc, fun w cargs E F hh hF _ hcr => ?_⟩
  have hE : E = [] := List.eq_nil_of_length_eq_zero (by rw [hh.len]; rfl)
  subst hE
  rw [lits_of hv hcr]
  refine (h w F hF).mono fun e w' ⟨v, he, hx, hb⟩ => ⟨v, x0, [], [], F, he, ⟨rfl, rfl⟩, ?_, hx⟩
  have hsame : ∀ b, F b → w'.heap[b]? = w.heap[b]? := fun b hb' => hb.block b (hF b hb')
  refine ⟨hb.os, hb.tape, ⟨hb.output⟩, hb.size, fun _ h => h, fun _ h => .inl h, fun b hlt _ => hb.block b hlt, hF.evo (fun _ h => h) hsame (fun b hb' => Nat.lt_of_lt_of_le (hF b hb') hb.size), ⟨rfl, by simp, by simp, by simp⟩, by simp, by simp, fun b n hs => ?_⟩
  obtain ⟨cs, t, h1, h2⟩ := hs
  exact ⟨cs, t, by rw [hb.block b (Sz.lt ⟨cs, t, h1, h2⟩)]; exact h1, h2⟩
theorem pd_same {f : FuncId} {args : List D} {x0 : D} {vs : List Value} {u : Value} (hc : callable P f) (hv : args.map litD = vs.map some) (hx : litD x0 = some u)
    (h : ∀ w, Calls P f vs.toArray w fun e w' => e = .returned u ∧ w' = w) : PD P f args (.d x0) := by
  refine pd_stays hc hv fun w F _ => (h w).mono fun e w' ⟨he, hw⟩ => ⟨u, he, .d _ _ ?_, by subst hw; exact Below.refl _ _⟩
  cases x0 <;> simp only [litD, Option.some.injEq, reduceCtorEq] at hx <;> subst hx <;> constructor

def NoGoto (Q : Exit → St → Prop) : Exit → St → Prop
  | .goto _, _ => False
  | e, s => Q e s
theorem awp_scope {kp : List Nat} {n : Nat} {s : St} {Q : Exit → St → Prop} {c : Code} (h : AWP P kp n c s (NoGoto Q)) : AWP P kp n (.scope c) s Q := by
  intro hok B a w E F h1 h2 h3
  refine wp_scope_straight (wp_mono (h hok B a w E F h1 h2 h3) ?_)
  rintro e a' w' ⟨g1, g2, s', E', F', g3, g4, g5⟩
  cases e with
  | goto l => exact g3.elim
  | _ => exact ⟨g1, g2, s', E', F', g3, g4, g5⟩
theorem nogoto_ret {Q : Exit → St → Prop} {s : St} (h : Q .ret s) : NoGoto Q .ret s := h
theorem nogoto_normal {Q : Exit → St → Prop} {s : St} (h : Q .normal s) : NoGoto Q .normal s := h

end Go.Aw
