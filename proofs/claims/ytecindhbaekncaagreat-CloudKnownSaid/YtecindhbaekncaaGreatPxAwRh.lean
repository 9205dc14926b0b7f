/-
  A range over a function whose iterator has its own memory and reads it between the rounds: what a caller owes. Over any program; no condition.
-/
import Derived.Test.YtecindhbaekncaaGreatPxAwRg
namespace Go.Aw
set_option linter.unusedSimpArgs false
set_option linter.unusedVariables false
open Go.RowKit

variable {P : Program}

structure Iter (P : Program) (m l : Nat) (encs : Nat → Array Value) (N : Nat) (J : (Nat → Prop) → Nat → World → Prop) : Prop where
  lt : ∀ X k W, J X k W → ∀ b, X b → b < W.heap.size
  st : ∀ X X' k W W', J X k W → Grow X W W' → (∀ b, X' b → b < W'.heap.size ∧ (X b ∨ W.heap.size ≤ b)) → J X' k W'
  yield : ∀ X k W, J X k W → k < N → YieldAt Fence.wide m P l (encs k) W fun e W' => e = .returned (.bool true) ∧ J X (k + 1) W' ∧ Grow (fun b => ¬ X b) W W'

theorem wpIn_rangeW {m : Nat} {g : Operand} {ps : Array Tmp} {assign body : Code} {Q : Exit → Act → World → Prop} {a : Act} {w : World}
    {gf : Nat} {lb : Array Value} (hg : a.eval g = .func (.func gf) #[] lb) (eg : ∀ args w, (callFunc gf args).run P w = .ok (.enter gf args) w)
    {encs : Nat → Array Value} {N : Nat} (hps : ∀ k, (encs k).size = ps.size) (X0 : Nat → Prop)
    (I : (Nat → Prop) → Nat → World → Prop) (I1 : (Nat → Prop) → Nat → Act → World → Prop)
    (hlt : ∀ X k W, I X k W → ∀ b, X b → b < W.heap.size)
    (h0 : I X0 0 w)
    (hst : ∀ X X' k W W', I X k W → Grow X W W' → (∀ b, X' b → b < W'.heap.size ∧ (X b ∨ W.heap.size ≤ b)) → I X' k W')
    (hst1 : ∀ X k a W W', I1 X k a W → Grow X W W' → I1 X k a W')
    (hiter : ∀ (l : Nat) (J : (Nat → Prop) → Nat → World → Prop) (W : World), Iter P (m - 1 - 1) l encs N J → Grow (fun _ => False) w W → J (fun _ => False) 0 W →
      CallsIn Fence.wide (m - 1) P gf (#[.func (.yield l) #[] #[]] ++ lb) W fun e W' => (∃ v, e = .returned v) ∧ ∃ X, J X N W')
    (hassign : ∀ (l : Nat) (X : Nat → Prop) (k : Nat) (W : World), I X k W → k < N →
      assign.wpIn (Fence.wide.inRound l) (m - 1 - 1) P (fun e a' W' => e = .normal ∧ I1 X k a' W' ∧ Grow (fun b => ¬ X b) W W') { tmps := (ps.zip (encs k)).foldl (fun t (p, v) => t.setIfInBounds p v) a.tmps, defers := [] } W)
    (hbody : ∀ (l : Nat) (X : Nat → Prop) (k : Nat) (a' : Act) (W : World), I1 X k a' W → k < N →
      body.wpIn (Fence.wide.inRound l) (m - 1 - 1) P (fun e _ W' => e = .normal ∧ I X (k + 1) W' ∧ Grow (fun b => ¬ X b) W W') a' W)
    (hdone : ∀ (D : Nat) (X : Nat → Prop) (W : World), w.heap.size ≤ D → X D → (∀ b, X0 b → X b ∧ W.heap[b]? = w.heap[b]?) → I X N W → W.heap[D]? = some (.deferred (some [])) →
      Q .normal { a with defers := { target := .collected D, args := #[] } :: a.defers } W) :
    (Code.rangeFunc g ps assign body).wpIn Fence.wide m P Q a w := by
  refine wpIn_rangeFunc fun fn hfn => ?_
  let rc : LoopState → Loop := fun st => { state := st, pending := none, fn, tmps := a.tmps, params := ps, assign, body, defers := w.heap.size }
  have hL : ((w.alloc (.deferred (some []))).alloc (.loop (rc .ready))).heap[w.heap.size + 1]? = some (.loop (rc .ready)) := by
    have := World.alloc_heap_new (w.alloc (.deferred (some []))) (.loop (rc .ready))
    rwa [World.size_alloc] at this
  have hD : ((w.alloc (.deferred (some []))).alloc (.loop (rc .ready))).heap[w.heap.size]? = some (.deferred (some [])) :=
    (Below.heap_alloc _ _ _ (by simp)).trans (World.alloc_heap_new w _)
  have hg1 : ∀ X, Grow X w ((w.alloc (.deferred (some []))).alloc (.loop (rc .ready))) := fun X => (Grow.alloc X w _).trans (Grow.alloc X _ _)
  have hsz1 : ((w.alloc (.deferred (some []))).alloc (.loop (rc .ready))).heap.size = w.heap.size + 2 := by simp
  generalize hW1 : (w.alloc (.deferred (some []))).alloc (.loop (rc .ready)) = W1 at hL hD hg1 hsz1
  obtain ⟨Y, hY⟩ : ∃ Y : Nat → Prop, Y = fun b => X0 b ∨ b = w.heap.size ∨ b = w.heap.size + 1 := ⟨_, rfl⟩
  have hYD : Y w.heap.size := by rw [hY]; exact .inr (.inl rfl)
  have hYL : Y (w.heap.size + 1) := by rw [hY]; exact .inr (.inr rfl)
  have hY0 : ∀ b, X0 b → Y b := fun b hb => by rw [hY]; exact .inl hb
  have hX0 := hlt _ _ _ h0
  have hYW : ∀ b, Y b → b < W1.heap.size := fun b hb => by
    rw [hY] at hb
    rcases hb with hb | rfl | rfl
    · have := hX0 b hb; omega
    · omega
    · omega
  have hI1 : I Y 0 W1 := hst _ _ _ _ _ h0 (hg1 X0) fun b hb => ⟨hYW b hb, by
    rw [hY] at hb
    rcases hb with hb | rfl | rfl
    · exact .inl hb
    · exact .inr (Nat.le_refl _)
    · exact .inr (Nat.le_succ _)⟩
  refine ⟨w.heap.size + 1, [{ target := .collected w.heap.size, args := #[] }], W1, { target := .fn (.func gf) lb, args := #[.func (.yield (w.heap.size + 1)) #[] #[]] }, W1, gf,
    #[.func (.yield (w.heap.size + 1)) #[] #[]] ++ lb, W1, by rw [← hW1]; exact run_enterLoop_outer _ _ _ _ _, by simp only [resolve, hg]; simp [go_sem], fun _ _ => trivial, by simp [invoke, go_sem, eg], (fun hx => by cases hx), ?_⟩
  refine (hiter (w.heap.size + 1) (fun X k W => I (fun b => X b ∨ Y b) k W ∧ W.heap[w.heap.size + 1]? = some (.loop (rc .ready)) ∧ W.heap[w.heap.size]? = some (.deferred (some [])) ∧ (∀ b, Y b → ¬ X b) ∧ (∀ b, Y b → b < W.heap.size) ∧ ∀ b, X0 b → W.heap[b]? = w.heap[b]?) W1
    ⟨?_, ?_, ?_⟩ (hg1 _) ⟨?_, hL, hD, fun _ _ h => h, hYW, fun b hb => (hg1 (fun _ => False)).same b (hX0 b hb) (fun h => h)⟩).mono ?_
  · rintro X k W ⟨hi, _⟩ b hb
    exact hlt _ _ _ hi b (.inl hb)
  · rintro X X' k W W' ⟨hi, hl, hd, hyx, hyl, hx0⟩ hgr hX'
    have hyx' : ∀ b, Y b → ¬ X' b := fun b hb hx => by
      rcases (hX' b hx).2 with h | h
      · exact hyx b hb h
      · have := hyl b hb; omega
    have hsame : ∀ b, Y b → W'.heap[b]? = W.heap[b]? := fun b hb => hgr.same b (hyl b hb) (hyx b hb)
    refine ⟨hst _ _ _ _ _ hi (hgr.mono fun b hb => .inl hb) fun b hb => ?_, (hsame _ hYL).trans hl, (hsame _ hYD).trans hd, hyx', fun b hb => Nat.lt_of_lt_of_le (hyl b hb) hgr.size, fun b hb => (hsame b (hY0 b hb)).trans (hx0 b hb)⟩
    rcases hb with hb | hb
    · obtain ⟨q1, q2⟩ := hX' b hb
      exact ⟨q1, q2.imp .inl id⟩
    · exact ⟨Nat.lt_of_lt_of_le (hyl b hb) hgr.size, .inl (.inr hb)⟩
  · -- one round
    rintro X k W ⟨hi, hl, hd, hyx, hyl, hx0⟩ hk
    have hlt1 : w.heap.size + 1 < W.heap.size := hyl _ hYL
    refine ⟨fn, _, assign, body, run_yield hl (hps k), roundIn_of_wpIn hfn (wpIn_mono (hassign _ _ k W hi hk) ?_)⟩
    rintro e a1 Wa ⟨rfl, hi1, hga⟩
    have keep1 : ∀ b, Y b → Wa.heap[b]? = W.heap[b]? := fun b hb => hga.same b (hyl b hb) fun h => h (.inr hb)
    have hla := (keep1 _ hYL).trans hl
    have hlta : w.heap.size + 1 < Wa.heap.size := Nat.lt_of_lt_of_le hlt1 hga.size
    refine ⟨_, run_beginRound hla rfl, ?_⟩
    have hgb : Grow (fun b => b = w.heap.size + 1) Wa (Wa.putObj (w.heap.size + 1) (.loop (rc .busy))) := Grow.putObj _ rfl hla rfl
    refine wpIn_mono (hbody _ _ k a1 _ (hst1 _ _ _ _ _ hi1 (hgb.mono fun b hb => .inr (hb ▸ hYL))) hk) ?_
    rintro e a3 W3 ⟨rfl, hi3, hg3⟩
    have keep3 : ∀ b, Y b → W3.heap[b]? = (Wa.putObj (w.heap.size + 1) (.loop (rc .busy))).heap[b]? := fun b hb => hg3.same b (by rw [World.putObj_size]; exact Nat.lt_of_lt_of_le (hyl b hb) hga.size) fun h => h (.inr hb)
    have hl3 : W3.heap[w.heap.size + 1]? = some (.loop (rc .busy)) := (keep3 _ hYL).trans (World.putObj_heap_same hlta)
    have hgc : Grow (fun b => b = w.heap.size + 1) W3 (W3.putObj (w.heap.size + 1) (.loop (rc .ready))) := Grow.putObj _ rfl hl3 rfl
    have hother : ∀ b, Y b → b ≠ w.heap.size + 1 → (W3.putObj (w.heap.size + 1) (.loop (rc .ready))).heap[b]? = W.heap[b]? := fun b hb hne =>
      (World.putObj_heap_other hne).trans ((keep3 b hb).trans ((World.putObj_heap_other hne).trans (keep1 b hb)))
    have hsz3 : W.heap.size ≤ W3.heap.size := by
      have := hg3.size
      rw [World.putObj_size] at this
      exact Nat.le_trans hga.size this
    refine ⟨_, _, run_endRound none hl3, rfl, ⟨?_, ?_, ?_, hyx, fun b hb => by rw [World.putObj_size]; exact Nat.lt_of_lt_of_le (hyl b hb) hsz3, fun b hb => ?_⟩, ?_⟩
    · refine hst _ _ _ _ _ hi3 (hgc.mono fun b hb => .inr (hb ▸ hYL)) fun b hb => ⟨?_, .inl hb⟩
      rw [World.putObj_size]
      exact hlt _ _ _ hi3 b hb
    · exact World.putObj_heap_same (Array.getElem?_eq_some_iff.1 hl3).1
    · exact (hother _ hYD (by omega)).trans hd
    · have := hX0 b hb
      exact (hother b (hY0 b hb) (by omega)).trans (hx0 b hb)
    · have hnl : ¬ X (w.heap.size + 1) := hyx _ hYL
      refine ((hga.mono fun b hb h => hb (.inl h)).trans (hgb.mono fun b hb h => ?_)).trans ((hg3.mono fun b hb h => hb (.inl h)).trans (hgc.mono fun b hb h => ?_))
      · subst hb; exact hnl h
      · subst hb; exact hnl h
  · refine hst _ _ _ _ _ hI1 (Grow.refl _ _) fun b hb => ?_
    rcases hb with hb | hb
    · exact hb.elim
    · exact ⟨hYW b hb, .inl hb⟩
  · -- behind the function
    rintro e W2 ⟨⟨v, rfl⟩, X, hi, hl, hd, hyx, hyl, hx0⟩
    have hge : Grow (fun b => b = w.heap.size + 1) W2 (W2.putObj (w.heap.size + 1) (.loop { rc .ready with state := .done })) := Grow.putObj _ rfl hl rfl
    refine ⟨none, _, run_endLoop hl (by simp [rc]), hdone _ (fun b => X b ∨ Y b) _ (Nat.le_refl _) (.inr hYD) (fun b hb => ⟨.inr (hY0 b hb), ?_⟩) ?_ ?_⟩
    · have := hX0 b hb
      exact (World.putObj_heap_other (by omega)).trans (hx0 b hb)
    · refine hst _ _ _ _ _ hi (Grow.putObj _ (.inr hYL) hl rfl) fun b hb => ⟨?_, .inl hb⟩
      rw [World.putObj_size]
      exact hlt _ _ _ hi b hb
    · exact (World.putObj_heap_other (by omega)).trans hd
end Go.Aw
