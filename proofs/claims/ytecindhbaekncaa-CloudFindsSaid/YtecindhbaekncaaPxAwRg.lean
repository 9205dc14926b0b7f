/-
  A range over a function whose iterator has its own memory and reads it between the rounds; regions within a round; regions with an operation that is shown by hand. Over any program; no condition.
-/
import Derived.RangeFuncLeaves
import Derived.RangeFuncCalls
import Derived.Test.YtecindhbaekncaaPkD
import Derived.Test.YtecindhbaekncaaPkY
namespace Go.Aw
set_option linter.unusedSimpArgs false
set_option linter.unusedVariables false
open Go.RowKit

variable {P : Program}

/-- What comes behind a list of operations, one of which may be shown by hand. -/
theorem opsC_sound {ops : Array Oper} {Q : Exit → Act → World → Prop} {B : Base} {n : Nat} (hd : dstsOk n ops = true) (rest : List Nat) : ∀ (l : List (Oper × Nat)) (s : St) (a : Act) (w : World) (E : Env) (F : Nat → Prop) (K : St → Prop), a.tmps.size = n → Sim B s a w E F →
    OpsVC P B.keep ops (l.map (·.1)) s K → (∀ p, p ∈ l → ops[p.2]? = some p.1) →
    (∀ a' w' s' E' F', K s' → Sim B s' a' w' E' F' → a'.tmps.size = n → wpOps P ops Q rest a' w') → wpOps P ops Q (l.map (·.2) ++ rest) a w
  | [], s, a, w, E, F, K, hn, hs, h, _, hq => hq a w s E F h hs hn
  | (o, i) :: l, s, a, w, E, F, K, hn, hs, h, hl, hq => by
    have ho : ops[i]? = some o := hl (o, i) (by simp)
    have ih := fun s a w E F hn hs h => opsC_sound (Q := Q) hd rest l s a w E F K hn hs h (fun p hp => hl p (by simp [hp])) hq
    have hdd : ∀ d, o.dst = some d → d < a.tmps.size := fun d hd' => by rw [hn]; exact dstsOk_spec hd ho d hd'
    simp only [List.map_cons, List.cons_append, wpOps, ho]
    simp only [List.map_cons, OpsVC] at h
    rcases op_sound (Q := Q) hs hdd h with ⟨v, s', hK, hs', hw⟩ | ⟨_, hw⟩
    · have ih' := ih s' _ w E F (by rw [size_put]; exact hn) hs' hK
      rcases hw with ⟨hw, hrun⟩ | ⟨hw, rfl⟩
      · rw [hw, if_pos rfl]
        refine .inl ?_
        unfold Oper.wp
        rw [hrun w (Keep.refl w)]
        exact ih'
      · rw [hw]
        exact ih'
    · rcases hw with ⟨hw, hwp⟩ | ⟨hw, s', F', hK, hs'⟩
      · rw [hw, if_pos rfl]
        exact .inl (Oper.wp_mono (fun a' w' ⟨_, v, s', E', F', ha, hK, hs'⟩ => by subst ha; exact ih s' _ w' E' F' (by rw [size_put]; exact hn) hs' hK) hwp)
      · rw [hw]
        exact ih s' _ w E F' (by rw [size_put]; exact hn) hs' hK
/-- Two walks, one behind the other. -/
theorem Rel.trans {B : Base} {s1 s2 : St} {w1 w2 : World} {E1 E2 : Env} {F1 F2 : Nat → Prop} {kp : List Nat} {ds : List Deferred} (h1 : Rel B s1 E1 F1 w1) (h2 : Rel ⟨w1, F1, own E1 s1.heap, E1, kp, ds⟩ s2 E2 F2 w2) (hk : ∀ i, i ∈ B.keep → i ∈ kp) :
    Rel B s2 E2 F2 w2 := by
  have hown : ∀ b, own E1 s1.heap b → B.w0.heap.size ≤ b ∨ B.own b := fun b ⟨id, e, blk, q1, q2, q3, q4⟩ => h1.src id b e blk q1 q2 q3 q4
  refine ⟨h2.os.trans h1.os, h2.tape.trans h1.tape, h2.output.trans h1.output, Nat.le_trans h1.size h2.size, fun b hb => h2.F0 b (h1.F0 b hb), fun b hb => ?_, fun b q1 q2 => ?_, h2.lt, h2.hr, fun id b e blk q1 q2 q3 q4 => ?_, fun i hi => ?_, fun b n h => h2.sz b n (h1.sz b n h)⟩
  · rcases h2.only b hb with h | h | h
    · exact h1.only b h
    · exact .inr (.inl (Nat.le_trans h1.size h))
    · exact .inr (hown b h)
  · refine (h2.same b (Nat.lt_of_lt_of_le q1 h1.size) fun h => ?_).trans (h1.same b q1 q2)
    rcases hown b h with h | h
    · omega
    · exact q2 h
  · rcases h2.src id b e blk q1 q2 q3 q4 with h | h
    · exact .inl (Nat.le_trans h1.size h)
    · exact hown b h
  · obtain ⟨e, q1, q2⟩ := h1.keep i hi
    obtain ⟨e', q3, q4⟩ := h2.keep i (hk i hi)
    dsimp only at q4
    rw [q1] at q4
    cases q4
    exact ⟨e, q3, q2⟩
/-- What is there stays as it was, but for the blocks of X; blocks may be new. -/
structure Grow (X : Nat → Prop) (W W' : World) : Prop where
  os : W'.os = W.os
  tape : W'.tape = W.tape
  later : Later W W'
  size : W.heap.size ≤ W'.heap.size
  same : ∀ b, b < W.heap.size → ¬ X b → W'.heap[b]? = W.heap[b]?
  sz : ∀ b n, Sz W b n → Sz W' b n
theorem Grow.refl (X : Nat → Prop) (W : World) : Grow X W W := ⟨rfl, rfl, .refl _, Nat.le_refl _, fun _ _ _ => rfl, fun _ _ h => h⟩
theorem Grow.trans {X : Nat → Prop} {A B C : World} (h1 : Grow X A B) (h2 : Grow X B C) : Grow X A C :=
  ⟨h2.os.trans h1.os, h2.tape.trans h1.tape, h2.later.trans h1.later, Nat.le_trans h1.size h2.size, fun b hb hX => (h2.same b (Nat.lt_of_lt_of_le hb h1.size) hX).trans (h1.same b hb hX), fun b n h => h2.sz b n (h1.sz b n h)⟩
theorem Grow.mono {X Y : Nat → Prop} {A B : World} (h : Grow X A B) (hXY : ∀ b, X b → Y b) : Grow Y A B := ⟨h.os, h.tape, h.later, h.size, fun b hb hY => h.same b hb fun hX => hY (hXY b hX), h.sz⟩
theorem Grow.alloc (X : Nat → Prop) (W : World) (o : Obj) : Grow X W (W.alloc o) :=
  ⟨rfl, rfl, ⟨rfl, Nat.le_refl _⟩, by simp, fun b hb _ => Below.heap_alloc W o b hb, fun b n ⟨cs, t, h1, h2⟩ => ⟨cs, t, (Below.heap_alloc W o b (Array.getElem?_eq_some_iff.1 h1).1).trans h1, h2⟩⟩
theorem Rel.grow {B : Base} {s : St} {E : Env} {F : Nat → Prop} {w : World} (h : Rel B s E F w) : Grow B.own B.w0 w := ⟨h.os, h.tape, h.output, h.size, h.same, h.sz⟩
end Go.Aw
