/-
  Texts of the proof, one behind the other. The conditions stand with each of them.
-/
import Derived.Test.YtlimahhonfckdaaDoorQkIp
import Derived.Test.YtlimahhonfckdaaDoorQkTp
import Derived.Test.YtlimahhonfckdaaDoorQkDp
namespace Go.Aw
set_option linter.unusedSimpArgs false
set_option linter.unusedVariables false
open Go.RowKit
variable {P : Program}

def kpL (H : List Blk) (mvs : List Nat) : List Nat := (List.range H.length).filter fun i => !mvs.contains i
def jn (mvs : List Nat) (x : V) : V := if mvs.any (fun i => V.has i x) then .junk else x
def tmJ (mvs : List Nat) : List (Nat × V) → List (Nat × V)
  | [] => []
  | (j, x) :: r => (j, jn mvs x) :: tmJ mvs r
attribute [seval] tmJ jn List.any_cons List.any_nil
theorem tget_tmJ (mvs : List Nat) (j : Nat) : ∀ l : List (Nat × V), tget (tmJ mvs l) j = (tget l j).map (jn mvs)
  | [] => rfl
  | (k, x) :: r => by
    simp only [tmJ, tget]
    split
    · rfl
    · exact tget_tmJ mvs j r
theorem jn_VR {E E' : Env} {F F' : Nat → Prop} {w w' : World} {mvs : List Nat} (he : Evo E F w E' F' w' (fun j => j ∉ mvs)) {x : V} {v : Value} (hx : VR E F w x v) : VR E' F' w' (jn mvs x) v := by
  unfold jn
  split
  · exact .junk v
  · rename_i h
    refine hx.evo he fun i hi hm => h ?_
    rw [List.any_eq_true]
    exact ⟨i, hm, hi⟩
theorem heap_mergeL {B : Base} {s : St} {a : Act} {w w' : World} {E E' : Env} {F F' : Nat → Prop} {H' : List Blk} {mvs : List Nat} (hs : Sim B s a w E F) (hmv : ∀ i, i ∈ mvs → i ∉ B.keep)
    (hr : Rel ⟨w, F, own E s.heap, E, kpL s.heap mvs, []⟩ ⟨[], H'⟩ E' F' w') : Sim B ⟨tmJ mvs s.tm, H'⟩ a w' E' F' := by
  have hs' := hs.rel
  have hown : ∀ b, own E s.heap b → B.w0.heap.size ≤ b ∨ B.own b := fun b ⟨id, e, blk, h1, h2, h3, h4⟩ => hs'.src id b e blk h1 h2 h3 h4
  have hkeep : ∀ (j : Nat) (e : En), j ∉ mvs → E[j]? = some e → E'[j]? = some e := fun j e hne h => by
    have hj : j < s.heap.length := by rw [← hs'.hr.len]; exact (List.getElem?_eq_some_iff.1 h).1
    obtain ⟨e', h1, h2⟩ := hr.keep j (List.mem_filter.2 ⟨List.mem_range.2 hj, by simpa using hne⟩)
    dsimp only at h2
    rw [h] at h2
    cases h2
    exact h1
  have evo : Evo E F w E' F' w' (fun j => j ∉ mvs) := ⟨hr.F0, fun b hb => hr.same b (hs'.lt b hb) (fun ⟨id, e, blk, h1, h2, h3, h4⟩ => (hs'.hr.free id b e blk h1 h4 h2 h3).2 hb), fun j e hj h => hkeep j e hj h, hr.sz⟩
  refine ⟨⟨hr.os.trans hs'.os, hr.tape.trans hs'.tape, hr.output.trans hs'.output, Nat.le_trans hs'.size hr.size, fun b hb => hr.F0 b (hs'.F0 b hb), fun b hb => ?_, fun b h1 h2 => ?_, hr.lt, hr.hr, fun id b e blk h1 h2 h3 h4 => ?_, fun i hi => ?_, fun b n h => hr.sz b n (hs'.sz b n h)⟩, hs.defers, fun i x hx => ?_⟩
  · rcases hr.only b hb with h | h | h
    · exact hs'.only b h
    · exact .inr (.inl (Nat.le_trans hs'.size h))
    · exact .inr (hown b h)
  · refine (hr.same b (Nat.lt_of_lt_of_le h1 hs'.size) fun h => ?_).trans (hs'.same b h1 h2)
    rcases hown b h with h | h
    · omega
    · exact h2 h
  · rcases hr.src id b e blk h1 h2 h3 h4 with h | h
    · exact .inl (Nat.le_trans hs'.size h)
    · exact hown b h
  · obtain ⟨e, h1, h2⟩ := hs'.keep i hi
    exact ⟨e, hkeep i e (fun h => hmv i h hi) h1, h2⟩
  · dsimp only at hx
    rw [tget_tmJ, Option.map_eq_some_iff] at hx
    obtain ⟨y, hy, rfl⟩ := hx
    obtain ⟨v, hv, h⟩ := hs.tm i y hy
    exact ⟨v, hv, jn_VR evo h⟩
theorem callT_run {B : Base} {s : St} {a : Act} {w : World} {E : Env} {F : Nat → Prop} {o : Oper} {c : Call} {p : Prop} {f : FuncId} {args : List V} (hs : Sim B s a w E F) (hc : o.op = .call c) (hT : callT s c = some (p, f, args)) (hp : p) (hcl : callable P f) :
    ∃ cargs, (execOp a.eval o).run P w = .ok (.enter f cargs) w ∧ CR E F w args cargs := by
    obtain ⟨fn, hfn, hnm, hbd⟩ := hcl
    have hcf : ∀ cargs, (callFunc f cargs).run P w = .ok (.enter f cargs) w := fun cargs => by
      simp only [callFunc, Sem.run_bind, run_program, Result.andThen_ok, hfn, hnm, hbd, Bool.false_eq_true, if_false]
      rfl
    have hrun : ∃ cargs, (execOp a.eval o).run P w = .ok (.enter f cargs) w ∧ CR E F w args cargs := by
      unfold callT at hT
      split at hT
      · rename_i fo hcal
        have fin : ∀ (caps : List V) (cv : Array Value), a.eval fo = .func (.func f) #[] cv → cv.size = caps.length →
            (∀ (j : Nat) (x : V) (v : Value), caps[j]? = some x → cv[j]? = some v → VR E F w x v) → (stripAll s c.args.toList).1 → args = (stripAll s c.args.toList).2 ++ caps →
            ∃ cargs, (execOp a.eval o).run P w = .ok (.enter f cargs) w ∧ CR E F w args cargs := by
          intro caps cv hf hcs hcr hst hargs
          subst hargs
          obtain ⟨q1, q2⟩ := stripAll_sound hs c.args.toList hst
          refine ⟨(c.args.map a.eval) ++ cv, ?_, ?_, ?_⟩
          · simp [execOp, hc, resolve, hcal, hf, Deferred.ofValue, invoke, hcf]
          · simp [q1, hcs]
          · intro j x v hx hv
            rw [List.getElem?_append] at hx
            rw [Array.getElem?_append] at hv
            rw [q1] at hx
            simp only [Array.size_map, Array.length_toList] at hv hx
            split at hx
            · rename_i hj
              rw [if_pos hj] at hv
              exact q2 j x v hx (by simpa using hv)
            · rename_i hj
              rw [if_neg hj] at hv
              exact hcr _ x v hx hv
        have e0 := ev_sound hs fo
        split at hT
        · rename_i f' caps hfo
          simp only [Option.some.injEq, Prod.mk.injEq] at hT
          obtain ⟨rfl, rfl, rfl⟩ := hT
          have e1 := V.strip_sound e0 hp.1
          rw [hfo] at e1
          generalize hv : a.eval fo = v at e1
          cases e1 with
          | d _ _ hd' =>
            cases hd' with
            | fn _ _ cs hss hrr =>
              refine fin (caps.map .d) cs hv (by simpa using hss) (fun j x v hx hv => ?_) hp.2 rfl
              simp only [List.getElem?_map, Option.map_eq_some_iff] at hx
              obtain ⟨y, hy, rfl⟩ := hx
              exact .d _ _ (hrr j y v hy hv)
        · rename_i f' caps hfo
          simp only [Option.some.injEq, Prod.mk.injEq] at hT
          obtain ⟨rfl, rfl, rfl⟩ := hT
          have e1 := V.strip_sound e0 hp.1
          rw [hfo] at e1
          generalize hv : a.eval fo = v at e1
          cases e1 with
          | fn _ _ cs hss hrr => exact fin caps cs hv hss hrr hp.2 rfl
        · cases hT
      · cases hT
    exact hrun
theorem call_V {kp : List Nat} {ops : Array Oper} {s : St} {K : St → Prop} {c : Call} {d : Option Tmp} {ty : TypeId} {ps : String} {af : Array Edge} {p : Prop} {f : FuncId} {args : List V} {R : V → List Blk → Prop} (mvs : List Nat) (hmv : ∀ i, i ∈ mvs → i ∉ kp)
    (hT : callT s c = some (p, f, args)) (hp : p) (hac : AC P f args s.heap (kpL s.heap mvs) R) (hK : ∀ x H', R x H' → K ((⟨tmJ mvs s.tm, H'⟩ : St).put d x)) :
    OpX2 P kp ops { dst := d, op := .call c, type := ty, pos := ps, after := af, guard := none } s K := by
  intro B a w E F Q h1 hs hd
  subst h1
  refine .inl ⟨rfl, ?_⟩
  obtain ⟨cargs, hrun, hcr⟩ := callT_run (P := P) (o := { dst := d, op := .call c, type := ty, pos := ps, after := af, guard := none }) hs rfl hT hp hac.1
  have hcalls := hac.2 w cargs E F hs.rel.hr hs.rel.lt (fun i hi => List.mem_range.1 (List.mem_filter.1 hi).1) hcr
  unfold Oper.wp
  rw [hrun]
  refine hcalls.mono ?_
  rintro e w' ⟨v, x, H', E', F', rfl, hR, hrel, hx⟩
  exact ⟨v, _, E', F', rfl, hK x H' hR, Sim.put (heap_mergeL hs hmv hrel) hx hd⟩

theorem vc_X {kp : List Nat} {ops : Array Oper} {o : Oper} {s : St} {K : St → Prop} (hg : o.guard = none) (h : contRun P kp ops (.vc [o]) s K) : OpX2 P kp ops o s K := by
  intro B a w E F Q h1 hs hd
  subst h1
  have h' : OpVC P B.keep ops o s K := h
  rcases op_sound (Q := Q) hs hd h' with ⟨v, s', hK, hs', hw⟩ | ⟨_, hw⟩
  · rcases hw with ⟨hw, hrun⟩ | ⟨hw, rfl⟩
    · refine .inl ⟨hw, ?_⟩
      unfold Oper.wp
      rw [hrun w (Keep.refl w)]
      exact ⟨v, s', E, F, rfl, hK, hs'⟩
    · exact .inr ⟨hw, s', hK, hs'⟩
  · rcases hw with ⟨hw, hwp⟩ | ⟨hw, s', F', hK, hs'⟩
    · exact .inl ⟨hw, Oper.wp_mono (fun a' w' ⟨_, h⟩ => h) hwp⟩
    · simp [Region.wanted, hg] at hw
def Ord (P : Program) (kp : List Nat) (ops : Array Oper) (k : Nat) (listed : Array Bool) (s : St) (K : St → Prop) : Prop :=
  ∀ (n : Nat), dstsOk n ops = true → ∀ (B : Base) (a : Act) (w : World) (E : Env) (F : Nat → Prop) (Q : Exit → Act → World → Prop), B.keep = kp → a.tmps.size = n → Sim B s a w E F →
    (∀ a' w' s' E' F', K s' → Sim B s' a' w' E' F' → a'.tmps.size = n → Q .normal a' w') → ∀ fuel, k ≤ fuel → wpAny P .any ops Q fuel listed a w
theorem ord_end {kp : List Nat} {ops : Array Oper} {listed : Array Bool} {s : St} {K : St → Prop} (hr : Region.ready .any ops listed = []) (h : K s) : Ord P kp ops 0 listed s K := by
  intro n hok B a w E F Q h1 hn hs hq fuel _
  have := hq a w s E F h hs hn
  cases fuel with
  | zero => exact ⟨hr, this⟩
  | succ fuel => exact ⟨fun _ => this, by rw [hr]; simp⟩
theorem ord_step {kp : List Nat} {ops : Array Oper} {k : Nat} {listed : Array Bool} {s : St} {K : St → Prop} (l : List Nat) (hr : Region.ready .any ops listed = l) (hl : l ≠ [])
    (h : ∀ i, i ∈ l → ∃ o, ops[i]? = some o ∧ OpX2 P kp ops o s fun u => Ord P kp ops k (listed.setIfInBounds i true) u K) : Ord P kp ops (k + 1) listed s K := by
  intro n hok B a w E F Q h1 hn hs hq fuel hf
  subst h1
  obtain ⟨fuel, rfl⟩ : ∃ g, fuel = g + 1 := ⟨fuel - 1, by omega⟩
  refine ⟨fun h0 => absurd (hr.symm.trans h0) hl, fun i hi => ?_⟩
  rw [hr] at hi
  obtain ⟨o, ho, hx⟩ := h i hi
  have hdd : ∀ d, o.dst = some d → d < a.tmps.size := fun d hd' => by rw [hn]; exact dstsOk_spec hok ho d hd'
  unfold wpOp
  simp only [ho]
  rcases hx B a w E F Q rfl hs hdd with ⟨hw, hwp⟩ | ⟨hw, s', hK', hs'⟩
  · rw [hw, if_pos rfl]
    exact .inl (Oper.wp_mono (fun a2 w2 ⟨v, s2, E2, F2, ha, hK2, hs2⟩ => by subst ha; exact hK2 n hok B _ w2 E2 F2 Q rfl (by rw [size_put]; exact hn) hs2 hq fuel (by omega)) hwp)
  · rw [hw]
    exact hK' n hok B _ w E F Q rfl (by rw [size_put]; exact hn) hs' hq fuel (by omega)
theorem ord_1 {kp : List Nat} {ops : Array Oper} {k : Nat} {listed : Array Bool} {s : St} {K : St → Prop} (i : Nat) {o : Oper} (hr : Region.ready .any ops listed = [i]) (ho : ops[i]? = some o)
    (h : OpX2 P kp ops o s fun u => Ord P kp ops k (listed.setIfInBounds i true) u K) : Ord P kp ops (k + 1) listed s K :=
  ord_step [i] hr (by simp) fun j hj => by
    obtain rfl := List.mem_singleton.1 hj
    exact ⟨o, ho, h⟩
theorem ord_2 {kp : List Nat} {ops : Array Oper} {k : Nat} {listed : Array Bool} {s : St} {K : St → Prop} (i j : Nat) {o q : Oper} (hr : Region.ready .any ops listed = [i, j]) (ho : ops[i]? = some o) (hq : ops[j]? = some q)
    (h : OpX2 P kp ops o s fun u => Ord P kp ops k (listed.setIfInBounds i true) u K) (h' : OpX2 P kp ops q s fun u => Ord P kp ops k (listed.setIfInBounds j true) u K) : Ord P kp ops (k + 1) listed s K :=
  ord_step [i, j] hr (by simp) fun m hm => by
    simp at hm
    rcases hm with rfl | rfl
    · exact ⟨o, ho, h⟩
    · exact ⟨q, hq, h'⟩
theorem awp_drawO {kp : List Nat} {n : Nat} {s : St} {Qs : Exit → St → Prop} {id : Nat} {ops : Array Oper} (k : Nat) (hk : Nat.ble k ops.size = true) (hm : P.follows .mixedOrders = true)
    (h : ∀ K : St → Prop, (∀ t, Qs .normal t → K t) → Ord P kp ops k (Array.replicate ops.size false) s K) : AWP P kp n (.region id ops true) s Qs := by
  intro hok B a w E F h1 h2 h3
  subst h1
  refine wp_region_any hm ?_
  refine h (fun t => Qs .normal t) (fun t ht => ht) n hok B _ _ E F _ rfl h2 h3.drew ?_ _ (Nat.le_of_ble_eq_true hk)
  intro a' w' s' E' F' hK hs hn
  exact ⟨by simp, by simp, s', E', F', hK, hs, hn⟩
end Go.Aw

namespace Go.Aw
set_option linter.unusedSimpArgs false
set_option linter.unusedVariables false
open Go.RowKit

theorem cells_sim {B : Base} {s : St} {a : Act} {w : World} {E : Env} {F : Nat → Prop} (h3 : Sim B s a w E F) (id : Nat) (xs ys : List V) (hi : s.heap[id]? = some (.cells xs)) (hl : ys.length = xs.length)
    (hv : ∀ (j : Nat) (x y : V), xs[j]? = some x → ys[j]? = some y → ∀ v : Value, VR E F w x v → VR E F w y v) : Sim B { s with heap := s.heap.set id (.cells ys) } a w E F := by
  have hr := h3.rel
  have hlt := (List.getElem?_eq_some_iff.1 hi).1
  obtain ⟨e, he⟩ : ∃ e, E[id]? = some e := ⟨_, List.getElem?_eq_getElem (by rw [hr.hr.len]; exact hlt)⟩
  have hbr := hr.hr.blk id e _ he hi
  obtain ⟨q1, q2, b, cs, t, q3, q4, q5, q6⟩ := hbr
  have hbr2 : BR E F w e (.cells ys) := ⟨q1.trans hl.symm, q2, b, cs, t, q3, q4, q5.trans hl.symm, fun j y hy => by
    have hj : j < xs.length := by rw [← hl]; exact (List.getElem?_eq_some_iff.1 hy).1
    obtain ⟨v, hv1, hv2⟩ := q6 j xs[j] (List.getElem?_eq_getElem hj)
    exact ⟨v, hv1, hv j _ y (List.getElem?_eq_getElem hj) hy v hv2⟩⟩
  obtain ⟨evo, hrel⟩ := hr.rewritten (w' := w) he hi rfl q3 q4 q4 rfl rfl rfl (.refl _) (Nat.le_refl _) (fun _ _ _ => rfl) hbr2
  exact ⟨hrel, h3.defers, h3.tm⟩
theorem awp_virtC {P : Program} {kp : List Nat} {n : Nat} {s : St} {Q : Exit → St → Prop} {c : Code} (id k : Nat) (hi : s.heap[id]? = some (.cells [.nil]))
    (h : AWP P kp n c { s with heap := (s.heap ++ [Blk.data k []]).set id (.cells [.ref s.heap.length 0 0]) } Q) : AWP P kp n c s Q := by
  intro hok B a w E F h1 h2 h3
  subst h1
  obtain ⟨e1, e2⟩ := virt_rel h3.rel k
  have hlt := (List.getElem?_eq_some_iff.1 hi).1
  have h4 : Sim B ⟨s.tm, s.heap ++ [Blk.data k []]⟩ a w (E ++ [⟨none, k, 0⟩]) F := ⟨⟨e2.os, e2.tape, e2.output, e2.size, e2.F0, e2.only, e2.same, e2.lt, e2.hr, e2.src, e2.keep, e2.sz⟩, h3.defers, fun j x hx => by
    obtain ⟨v, hv, hr⟩ := h3.tm j x hx
    exact ⟨v, hv, hr.evo e1 (fun _ _ => trivial)⟩⟩
  refine h hok B a w _ F rfl h2 (cells_sim h4 id [.nil] [.ref s.heap.length 0 0] (by rw [List.getElem?_append_left hlt]; exact hi) rfl ?_)
  intro j x y hx hy v hv
  cases j with
  | zero =>
    simp at hx hy
    subst hx hy
    cases hv with
    | nil a => exact .refv _ k 0 a (by rw [← h3.rel.hr.len, List.getElem?_append_right (Nat.le_refl _)]; simp)
  | succ j => simp at hx
end Go.Aw
