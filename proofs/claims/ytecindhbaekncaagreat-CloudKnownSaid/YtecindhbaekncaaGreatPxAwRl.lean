/-
  A range over a function within a walk: the iterator by its law, the rounds by their walks. Over any program; no condition.
-/
import Derived.Test.YtecindhbaekncaaGreatPxAwRk
namespace Go.Aw
set_option linter.unusedSimpArgs false
set_option linter.unusedVariables false
open Go.RowKit

variable {P : Program}

structure Fl (w : World) (E0 : Env) (H0 : List Blk) (F0 X0 : Nat → Prop) (a : Act) (tm0 : List (Nat × V)) (kp : List Nat) (X : Nat → Prop) (H : List Blk) (E : Env) (F : Nat → Prop) (W : World) : Prop where
  xb : ∀ b, X b → b < W.heap.size ∧ (X0 b ∨ w.heap.size ≤ b)
  gr : Grow (fun b => own E0 H0 b ∨ X0 b) w W
  hr : HR E F W H
  lt : ∀ b, F b → b < W.heap.size
  xd : ∀ b, X b → ¬ F b ∧ ¬ own E H b
  f0 : ∀ b, F0 b → F b
  fo : ∀ b, F b → F0 b ∨ w.heap.size ≤ b ∨ own E0 H0 b
  oo : ∀ b, own E H b → w.heap.size ≤ b ∨ own E0 H0 b
  tm : ∀ i x, tget tm0 i = some x → ∃ v, a.tmps[i]? = some v ∧ VR E F W x v
  kp : ∀ i, i ∈ kp → i < H.length
section
variable {w : World} {E0 : Env} {H0 : List Blk} {F0 X0 : Nat → Prop} {a : Act} {tm0 : List (Nat × V)} {kp : List Nat} {X : Nat → Prop} {H : List Blk} {E : Env} {F : Nat → Prop} {W : World}
theorem Fl.grow (h : Fl w E0 H0 F0 X0 a tm0 kp X H E F W) {X' : Nat → Prop} {W' : World} (hg : Grow X W W') (hX : ∀ b, X' b → b < W'.heap.size ∧ (X b ∨ W.heap.size ≤ b)) : Fl w E0 H0 F0 X0 a tm0 kp X' H E F W' := by
  have hsz := h.gr.size
  have hF : ∀ b, F b → W'.heap[b]? = W.heap[b]? := fun b hb => hg.same b (h.lt b hb) fun hx => (h.xd b hx).1 hb
  have evo : Evo E F W E F W' (fun _ => True) := ⟨fun _ h => h, hF, fun _ _ _ h => h, hg.sz⟩
  refine ⟨fun b hb => ?_, ?_, ⟨h.hr.len, ?_, ?_, h.hr.inj⟩, fun b hb => Nat.lt_of_lt_of_le (h.lt b hb) hg.size, fun b hb => ?_, h.f0, h.fo, h.oo, fun i x hx => ?_, h.kp⟩
  · obtain ⟨q1, q2⟩ := hX b hb
    refine ⟨q1, ?_⟩
    rcases q2 with q2 | q2
    · exact (h.xb b q2).2
    · exact .inr (Nat.le_trans hsz q2)
  · refine ⟨hg.os.trans h.gr.os, hg.tape.trans h.gr.tape, hg.later.trans h.gr.later, Nat.le_trans hsz hg.size, fun b q1 q2 => (hg.same b (Nat.lt_of_lt_of_le q1 hsz) fun hx => ?_).trans (h.gr.same b q1 q2), fun b n hb => hg.sz b n (h.gr.sz b n hb)⟩
    rcases (h.xb b hx).2 with h | h
    · exact q2 (.inr h)
    · omega
  · intro id e b h1 h2
    cases hl : b.live with
    | false => cases b <;> simp [Blk.live] at hl; trivial
    | true =>
      exact (h.hr.blk id e b h1 h2).evo evo (fun _ _ => trivial) fun c hc => by
        obtain ⟨q1, q2⟩ := h.hr.free id c e b h1 hc h2 hl
        exact hg.same c q1 fun hx => (h.xd c hx).2 ⟨id, e, b, h1, h2, hl, hc⟩
  · intro id b e blk h1 h2 h3 h4
    obtain ⟨q1, q2⟩ := h.hr.free id b e blk h1 h2 h3 h4
    exact ⟨Nat.lt_of_lt_of_le q1 hg.size, q2⟩
  · rcases (hX b hb).2 with q | q
    · exact h.xd b q
    · exact ⟨fun hf => by have := h.lt b hf; omega, fun ho => by have := (own_lt h.hr ho).1; omega⟩
  · obtain ⟨v, hv, hx'⟩ := h.tm i x hx
    exact ⟨v, hv, hx'.evo evo (fun _ _ => trivial)⟩
theorem Fl.sim (h : Fl w E0 H0 F0 X0 a tm0 kp X H E F W) {tm : List (Nat × V)} {a' : Act} (ht : ∀ i x, tget tm i = some x → ∃ v, a'.tmps[i]? = some v ∧ VR E F W x v) (hd : a'.defers = []) : Sim ⟨W, F, own E H, E, kp, []⟩ ⟨tm, H⟩ a' W E F :=
  ⟨⟨rfl, rfl, .refl _, Nat.le_refl _, fun _ h => h, fun _ h => .inl h, fun _ _ _ => rfl, h.lt, h.hr, fun id b e blk q1 q2 q3 q4 => .inr ⟨id, e, blk, q1, q2, q3, q4⟩,
    (fun i hi => by
      have h1 := h.kp i hi
      rw [← h.hr.len] at h1
      exact ⟨_, List.getElem?_eq_getElem h1, List.getElem?_eq_getElem h1⟩), fun _ _ h => h⟩, hd, ht⟩
theorem Fl.step (h : Fl w E0 H0 F0 X0 a tm0 kp X H E F W) (htm : ∀ i x, tget tm0 i = some x → ∀ j, V.has j x = true → j ∈ kp) {s' : St} {a' : Act} {W' : World} {E' : Env} {F' : Nat → Prop} {ds : List Deferred} (hs : Sim ⟨W, F, own E H, E, kp, ds⟩ s' a' W' E' F') :
    Fl w E0 H0 F0 X0 a tm0 kp X s'.heap E' F' W' ∧ Grow (fun b => ¬ X b) W W' := by
  have hr := hs.rel
  have hsz := h.gr.size
  have evo : Evo E F W E' F' W' (fun i => i ∈ kp) := ⟨hr.F0, fun b hb => hr.same b (h.lt b hb) fun ho => (own_lt h.hr ho).2 hb, fun id e hid he => by
    obtain ⟨e', q1, q2⟩ := hr.keep id hid
    dsimp only at q2
    rw [he] at q2
    cases q2
    exact q1, hr.sz⟩
  have hF' : ∀ b, F' b → F b ∨ W.heap.size ≤ b ∨ own E H b := hr.only
  have hO' : ∀ b, own E' s'.heap b → W.heap.size ≤ b ∨ own E H b := fun b ⟨id, e, blk, q1, q2, q3, q4⟩ => hr.src id b e blk q1 q2 q3 q4
  refine ⟨⟨fun b hb => ?_, ?_, hr.hr, hr.lt, fun b hb => ?_, fun b hb => hr.F0 b (h.f0 b hb), fun b hb => ?_, fun b hb => ?_, fun i x hx => ?_, fun i hi => ?_⟩, ?_⟩
  · obtain ⟨q1, q2⟩ := h.xb b hb
    exact ⟨Nat.lt_of_lt_of_le q1 hr.size, q2⟩
  · refine ⟨hr.os.trans h.gr.os, hr.tape.trans h.gr.tape, hr.output.trans h.gr.later, Nat.le_trans hsz hr.size, fun b q1 q2 => (hr.same b (Nat.lt_of_lt_of_le q1 hsz) fun ho => ?_).trans (h.gr.same b q1 q2), fun b n hb => hr.sz b n (h.gr.sz b n hb)⟩
    rcases h.oo b ho with h | h
    · omega
    · exact q2 (.inl h)
  · obtain ⟨q1, q2⟩ := h.xd b hb
    have q3 := (h.xb b hb).1
    refine ⟨fun hf => ?_, fun ho => ?_⟩
    · rcases hF' b hf with h | h | h
      · exact q1 h
      · omega
      · exact q2 h
    · rcases hO' b ho with h | h
      · omega
      · exact q2 h
  · rcases hF' b hb with q | q | q
    · exact h.fo b q
    · exact .inr (.inl (Nat.le_trans hsz q))
    · exact (h.oo b q).elim (fun q => .inr (.inl q)) fun q => .inr (.inr q)
  · rcases hO' b hb with q | q
    · exact .inl (Nat.le_trans hsz q)
    · exact h.oo b q
  · obtain ⟨v, hv, hx'⟩ := h.tm i x hx
    exact ⟨v, hv, hx'.evo evo (htm i x hx)⟩
  · obtain ⟨e, q1, _⟩ := hr.keep i hi
    rw [← hr.hr.len]
    exact (List.getElem?_eq_some_iff.1 q1).1
  · exact hr.grow.mono fun b hb hx => (h.xd b hx).2 hb
end

theorem awr_range {n : Nat} {s : St} {Q : Exit → St → Prop} {g : Operand} {p ia ib ic : Nat} {aops bops : Array Oper} {gf : Nat} {cap : D} (tm0 : List (Nat × V)) (hp : Nat → List Blk) (val : Nat → V) (encs : Nat → Array Value) (N : Nat) (kp : List Nat)
    (hg : (s.fz 3 (s.ev g)).ev g = .fn (.func gf) [.d cap]) (eg : ∀ args w, (callFunc gf args).run P w = .ok (.enter gf args) w)
    (hok : (dstsOk n aops && dstsOk n bops && noDefer aops && noDefer bops && decide (p < n)) = true)
    (hgen : ∀ (m l : Nat) (J : (Nat → Prop) → Nat → World → Prop) (W : World) (F : Nat → Prop) (pv : Value), Iter P m l encs N J → (∀ b, F b → b < W.heap.size) → RD F W cap pv → J (fun _ => False) 0 W → ∀ m',
      CallsIn Fence.wide m' P gf (#[.func (.yield l) #[] #[]] ++ #[pv]) W fun e W' => (∃ v, e = .returned v) ∧ ∃ X, J X N W')
    (hsz : ∀ k, (encs k).size = 1) (hval : ∀ k, k < N → ∀ (E : Env) (F : Nat → Prop) (w : World) (v : Value), (encs k)[0]? = some v → VR E F w (val k) v)
    (h0 : s.heap = hp 0) (ht0 : ∀ i x, tget tm0 i = some x → tget s.tm i = some x) (htm : ∀ i x, tget tm0 i = some x → ∀ j, V.has j x = true → j ∈ kp) (hkp : ∀ i, i ∈ kp → i < (hp 0).length)
    (round : ∀ k, k < N → contRun P kp aops (.vc aops.toList) ⟨tput tm0 p (val k), hp k⟩ fun s1 => contRun P kp bops (.vc bops.toList) s1 fun s2 => ∃ r, Ren kp r ⟨[], hp (k + 1)⟩ s2)
    (hQ : Q .normal ⟨tm0, hp N⟩) : AWR P n (.rangeFunc g #[p] (.region ia aops false) (.block ib (.region ic bops false))) s Q := by
  intro B a w E F h1 h2 h3
  simp only [Bool.and_eq_true, decide_eq_true_eq] at hok
  obtain ⟨⟨⟨⟨ok1, ok2⟩, ok3⟩, ok4⟩, ok5⟩ := hok
  -- the iterator's captured value, all that it reads given up
  obtain ⟨Ff, hf⟩ := fz_sim 3 s (s.ev g) F h3.sim
  have hv := ev_sound hf g
  rw [hg] at hv
  obtain ⟨pv, hev, hrd⟩ : ∃ pv, a.eval g = .func (.func gf) #[] #[pv] ∧ RD Ff w cap pv := by
    generalize a.eval g = v at hv
    cases hv with
    | fn f xs cs hs hr =>
      obtain ⟨l⟩ := cs
      match l, hs with
      | [c], _ =>
        have := hr 0 _ c rfl rfl
        cases this with
        | d _ _ h => exact ⟨c, rfl, h⟩
  have hlf := hf.rel.lt
  refine wpIn_wide (n := 3).1 ?_
  refine wpIn_rangeW (m := 3) hev eg (encs := encs) (N := N) (fun k => by rw [hsz]; rfl) (fun b => ∃ d, d ∈ a.defers ∧ d = { target := .collected b, args := #[] })
    (fun X k W => ∃ E1 F1, Fl w E s.heap F (fun b => ∃ d, d ∈ a.defers ∧ d = { target := .collected b, args := #[] }) a tm0 kp X (hp k) E1 F1 W)
    (fun X k a' W => ∃ s1 E1 F1, Fl w E s.heap F (fun b => ∃ d, d ∈ a.defers ∧ d = { target := .collected b, args := #[] }) a tm0 kp X s1.heap E1 F1 W ∧ (∀ i x, tget s1.tm i = some x → ∃ v, a'.tmps[i]? = some v ∧ VR E1 F1 W x v) ∧ a'.defers = [] ∧ a'.tmps.size = n ∧
      contRun P kp bops (.vc bops.toList) s1 fun s2 => ∃ r, Ren kp r ⟨[], hp (k + 1)⟩ s2)
    ?_ ?_ ?_ ?_ ?_ ?_ ?_ ?_
  · rintro X k W ⟨E1, F1, hfl⟩ b hb
    exact (hfl.xb b hb).1
  · refine ⟨E, F, ⟨?_, .refl _ _, h0 ▸ h3.rel.hr, h3.rel.lt, ?_, fun _ h => h, fun _ h => .inl h, fun b hb => .inr (h0 ▸ hb), fun i x hx => h3.tm i x (ht0 i x hx), hkp⟩⟩
    · rintro b ⟨d, hd, rfl⟩
      obtain ⟨D, q1, q2, _⟩ := h3.mks _ hd
      cases q1
      exact ⟨(Array.getElem?_eq_some_iff.1 q2).1, .inl ⟨_, hd, rfl⟩⟩
    · rintro b ⟨d, hd, rfl⟩
      obtain ⟨D, q1, q2, q3, q4, q5⟩ := h3.mks _ hd
      cases q1
      exact ⟨q5, h0 ▸ q4⟩
  · rintro X X' k W W' ⟨E1, F1, hfl⟩ hgr hX'
    exact ⟨E1, F1, hfl.grow hgr hX'⟩
  · rintro X k a' W W' ⟨s1, E1, F1, hfl, ht, hd, hn, hc⟩ hgr
    have hx : ∀ b, X b → b < W'.heap.size ∧ (X b ∨ W.heap.size ≤ b) := fun b hb => ⟨Nat.lt_of_lt_of_le (hfl.xb b hb).1 hgr.size, .inl hb⟩
    have evo : Evo E1 F1 W E1 F1 W' (fun _ => True) := ⟨fun _ h => h, fun b hb => hgr.same b (hfl.lt b hb) fun hx => (hfl.xd b hx).1 hb, fun _ _ _ h => h, hgr.sz⟩
    exact ⟨s1, E1, F1, hfl.grow hgr hx, fun i x hx => let ⟨v, hv, hr⟩ := ht i x hx; ⟨v, hv, hr.evo evo (fun _ _ => trivial)⟩, hd, hn, hc⟩
  · intro l J W hJ hgr hj
    exact hgen _ l J W Ff pv hJ (fun b hb => Nat.lt_of_lt_of_le (hlf b hb) hgr.size) (hrd.evo (fun _ h => h) fun b hb => hgr.same b (hlf b hb) fun h => h) hj _
  · rintro l X k W ⟨E1, F1, hfl⟩ hk
    obtain ⟨v0, hv0⟩ : ∃ v0, encs k = #[v0] := Array.size_eq_one_iff.1 (hsz k)
    have hts : ((#[p].zip (encs k)).foldl (fun t (q : Tmp × Value) => t.setIfInBounds q.1 q.2) a.tmps) = a.tmps.setIfInBounds p v0 := by
      have hz : (#[p].zip #[v0]) = #[(p, v0)] := by
        apply Array.toList_inj.1
        simp
      rw [hv0, hz]; rfl
    have hvr : VR E1 F1 W (val k) v0 := hval k hk _ _ _ _ (by rw [hv0]; rfl)
    have hs : Sim ⟨W, F1, own E1 (hp k), E1, kp, []⟩ ⟨tput tm0 p (val k), hp k⟩ { tmps := a.tmps.setIfInBounds p v0, defers := [] } W E1 F1 := hfl.sim (fun i x hx => by
      simp only [tget_tput] at hx
      split at hx
      · rename_i hi
        subst hi
        simp only [Option.some.injEq] at hx
        subst hx
        exact ⟨v0, by simp [h2, ok5], hvr⟩
      · rename_i hi
        obtain ⟨v, hv, hr⟩ := hfl.tm i x hx
        exact ⟨v, by rw [Array.getElem?_setIfInBounds_ne (fun e => hi e.symm)]; exact hv, hr⟩) rfl
    have hreg := region_in (id := ia) ok1 ok3 (round k hk) l 1 rfl (by simp [h2]) hs
    refine wpIn_mono (show (Code.region ia aops false).wpIn (Fence.wide.inRound l) 1 P _ { tmps := ((#[p].zip (encs k)).foldl (fun t (q : Tmp × Value) => t.setIfInBounds q.1 q.2) a.tmps), defers := [] } W from by rw [hts]; exact hreg) ?_
    rintro e a' W' ⟨rfl, s', E', F', hc, hs', hn'⟩
    obtain ⟨q1, q2⟩ := hfl.step htm hs'
    exact ⟨rfl, ⟨s', E', F', q1, hs'.tm, hs'.defers, hn', hc⟩, q2⟩
  · rintro l X k a' W ⟨s1, E1, F1, hfl, ht, hd, hn, hc⟩ hk
    have hs : Sim ⟨W, F1, own E1 s1.heap, E1, kp, []⟩ s1 a' W E1 F1 := hfl.sim ht hd
    refine wpIn_block (wpIn_mono (region_in (id := ic) ok2 ok4 hc l 1 rfl hn hs) ?_)
    rintro e a2 W2 ⟨rfl, s2, E2, F2, ⟨r, hren⟩, hs2, hn2⟩
    have hs3 := ren_sim (B := ⟨W, F1, own E1 s1.heap, E1, kp, []⟩) hren hs2
    obtain ⟨q1, q2⟩ := hfl.step htm hs3
    exact ⟨rfl, ⟨_, _, q1⟩, q2⟩
  · rintro D X W hD hXD hX0 ⟨E1, F1, hfl⟩ hWD
    have hdef : ∀ d, d ∈ a.defers → ∃ D', d = { target := .collected D', args := #[] } ∧ D' < w.heap.size ∧ W.heap[D']? = some (.deferred (some [])) ∧ B.w0.heap.size ≤ D' ∧ X D' := fun d hd => by
      obtain ⟨D', q1, q2, q3, _⟩ := h3.mks d hd
      obtain ⟨r1, r2⟩ := hX0 D' ⟨d, hd, q1⟩
      exact ⟨D', q1, (Array.getElem?_eq_some_iff.1 q2).1, r2.trans q2, q3, r1⟩
    have hrel : Rel ⟨w, F, own E s.heap, E, [], []⟩ ⟨tm0, hp N⟩ E1 F1 W := by
      refine ⟨hfl.gr.os, hfl.gr.tape, hfl.gr.later, hfl.gr.size, hfl.f0, fun b hb => hfl.fo b hb, fun b q1 q2 => ?_, hfl.lt, hfl.hr, fun id b e blk q1 q2 q3 q4 => hfl.oo b ⟨id, e, blk, q1, q2, q3, q4⟩, (fun i hi => by cases hi), hfl.gr.sz⟩
      by_cases hx : ∃ d, d ∈ a.defers ∧ d = { target := .collected b, args := #[] }
      · exact (hX0 b hx).2
      · exact hfl.gr.same b q1 fun h => h.elim q2 hx
    refine ⟨by simp, by simp, ⟨tm0, hp N⟩, E1, F1, hQ, ⟨h3.rel.trans hrel (by rw [h1]; intro i hi; cases hi), hfl.tm, ?_, ?_⟩, h2⟩
    · intro d hd
      rcases List.mem_cons.1 hd with rfl | hd
      · exact ⟨D, rfl, hWD, Nat.le_trans h3.rel.size hD, (hfl.xd D hXD).2, (hfl.xd D hXD).1⟩
      · obtain ⟨D', q1, _, q3, q4, q5⟩ := hdef d hd
        exact ⟨D', q1, q3, q4, (hfl.xd D' q5).2, (hfl.xd D' q5).1⟩
    · refine List.pairwise_cons.2 ⟨fun d hd e => ?_, h3.nd⟩
      obtain ⟨D', q1, q2, _⟩ := hdef d hd
      rw [q1] at e
      cases e
      omega

theorem awr_ren {n : Nat} {s : St} {Q : Exit → St → Prop} {c : Code} (r : List Nat) (s' : St) (hl : Ren [] r s' s) (h : AWR P n c s' Q) : AWR P n c s Q := by
  intro B a w E F h1 h2 h3
  exact h B a w _ F h1 h2 (h3.after h1 (ren_sim (B := ⟨w, F, own E s.heap, E, [], a.defers⟩) hl h3.sim))
theorem pddR_of {f : FuncId} {fn : Func} {c : Code} {args : List D} {d0 : D} (rs : List ResultVar) (hf : P.funcs[f]? = some fn) (hb : fn.body = some c)
    (hnm : (fn.name == "runtime.NumGoroutine") = false) (hn : (args.map ofD).length ≤ fn.ntmps) (hrs : fn.results.toList = rs)
    (h : AWR P fn.ntmps c ⟨argTm 0 (args.map ofD), []⟩ (Fin P rs fun x H => Deep H x d0)) : PD P f args (ofD d0) := by
  subst hrs
  exact AC.deep (R := fun x H => Deep H x d0) (ac_ofR hf hb hnm hn h) fun x H' hh => ⟨d0, hh, rfl, rfl⟩
end Go.Aw
