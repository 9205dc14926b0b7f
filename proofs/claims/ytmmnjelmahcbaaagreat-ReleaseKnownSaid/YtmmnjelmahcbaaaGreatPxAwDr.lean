/-
  What is drawn stays drawn: a run of one operation never takes a draw back; append onto an own row, with that. Over any program; no condition.
-/
import Derived.RangeFuncBox
import Derived.OwnWalkIn
import Derived.Test.YtmmnjelmahcbaaaGreatPkD
namespace Go.Aw
set_option linter.unusedSimpArgs false
set_option linter.unusedVariables false
open Go.RowKit

theorem ask_drawn {α : Type} : ∀ (q : Ask α) (w : World), w.drawn ≤ (w.ask q).2.drawn
  | .done a, w => by simp [World.ask]
  | .ask what range k, w => by
    simp only [World.ask]
    split
    · exact ask_drawn _ w
    · exact Nat.le_trans (Nat.le_succ _) (ask_drawn _ { w with drawn := w.drawn + 1 })
theorem sys_drawn (w : World) (c : Sys) : w.drawn ≤ (w.sys c).2.drawn := by
  have h := ask_drawn (Kernel.perform c w.os) w
  unfold World.sys
  split
  · exact Nat.le_refl _
  · rename_i r os w1 _ he
    rw [he] at h
    exact h
theorem viewStore_drawn {P : Program} {w w' : World} {a k : Addr} {u : TypeId} {v : Value} {b : Bool} {l : List Addr} (h : w.viewStore P a u k v b = .ok (w', l)) : w'.drawn = w.drawn := by
  unfold World.viewStore at h
  simp only [bind, Except.bind, pure, Except.pure] at h
  repeat' (split at h)
  all_goals first | (cases h; rfl) | (cases h) | skip
theorem farStore_drawn {P : Program} {w w' : World} {a : Addr} {v : Value} {b : Bool} {l : List Addr} (h : w.farStore P a v b = .ok (w', l)) : w'.drawn = w.drawn := by
  unfold World.farStore at h
  split at h
  · split at h
    · rename_i r hr
      cases h
      exact viewStore_drawn hr
    · cases h
  · cases h

theorem run_drawn {α : Type} {P : Program} : ∀ (m : Sem α) (w w' : World) (x : α), m.run P w = .ok x w' → w.drawn ≤ w'.drawn
  | .pure a, w, w', x, h => by simp only [Sem.run] at h; cases h; exact Nat.le_refl _
  | .load m a k, w, w', x, h => by
    simp only [Sem.run] at h
    split at h
    · exact run_drawn _ w w' x h
    · split at h
      · exact run_drawn _ w w' x h
      · cases h
  | .store m a v k, w, w', x, h => by
    cases v <;> simp only [Sem.run] at h <;> (try (cases h; done)) <;>
    (split at h
     · split at h
       · cases h
       · exact run_drawn k (w.setCell a _) w' x h
     · split at h
       · rename_i w1 l hf
         have := run_drawn k w1 w' x h
         rw [farStore_drawn hf] at this
         exact this
       · cases h)
  | .new o k, w, w', x, h => by simp only [Sem.run] at h; exact run_drawn _ { w with heap := w.heap.push o } w' x h
  | .shape r k, w, w', x, h => by simp only [Sem.run] at h; exact run_drawn _ _ w' x h
  | .freeze a n k, w, w', x, h => by
    simp only [Sem.run] at h
    have := run_drawn _ _ w' x h
    unfold World.freeze at this
    split at this <;> exact this
  | .frozen a k, w, w', x, h => by simp only [Sem.run] at h; exact run_drawn _ _ w' x h
  | .getObj r k, w, w', x, h => by
    simp only [Sem.run] at h
    split at h
    · cases h
    · exact run_drawn _ _ w' x h
    · cases h
  | .setObj r o k, w, w', x, h => by
    simp only [Sem.run] at h
    split at h
    · cases h
    · exact run_drawn k { w with heap := w.heap.setIfInBounds r o } w' x h
    · cases h
  | .choose q k, w, w', x, h => by
    simp only [Sem.run] at h
    split at h
    · exact run_drawn _ _ w' x h
    · exact Nat.le_trans (Nat.le_succ _) (run_drawn _ { w with drawn := w.drawn + 1 } w' x h)
  | .sys c k, w, w', x, h => by
    simp only [Sem.run] at h
    exact Nat.le_trans (sys_drawn w c) (run_drawn _ _ w' x h)
  | .program k, w, w', x, h => by simp only [Sem.run] at h; exact run_drawn _ _ w' x h
  | .mark m k, w, w', x, h => by simp only [Sem.run] at h; exact run_drawn k w w' x h
  | .halt hh, w, w', x, h => by simp only [Sem.run] at h; cases h

theorem wpListIn_append_ownD {F : Fence} {n : Nat} {P : Program} (w : World) {ops : Array Oper} {rest : List Oper} {o : Oper} {a : Act} {Q : Exit → Act → World → Prop}
    (hg : o.guard = none) (s x : Operand) (t : TypeId) (hop : o.op = Op.call { callee := Callee.builtin Builtin.append, args := #[s, x], argTypes := #[t, t] })
    (base : Nat) (e : TypeId) (i : TypeInfo) (z : Value) (size bytes : Nat) (h1 : P.underlying t = some (.slice e)) (h2 : P.info? e = some i) (h3 : i.zero = some z) (h4 : i.size = size) (h5 : i.bytes = bytes) (h6 : z.cells.size = size) (h7 : 0 < size)
    (v : Value) (k : Nat) (xs : List Value) (hs : a.eval s = v) (hown : w.ownsRow base e size v k xs) (ad : Addr) (m c : Nat) (news : List Value) (hx : a.eval x = .slice (some ad) m c) (hn : news.length = m * size)
    (hc : ∀ j u, news[j]? = some u → w.cell? (ad.add j) = some u) (h1c : ∀ u ∈ news, u.oneCell' = true) (b1 : k + m ≤ maxLen) (b2 : (k + m) * bytes ≤ 140737488355328) (b3 : base ≤ w.heap.size)
    (hK : ∀ v' w', w'.ownsRow base e size v' (k + m) (xs ++ news) → w.grownBy w' v.ownBlock → w.drawn ≤ w'.drawn → wpListIn F n P ops Q rest (a.put o.dst v') w') :
    wpListIn F n P ops Q (o :: rest) a w := by
  refine wpListIn_plain hg fun K hK' => ?_
  obtain ⟨v', w', hrun, r1, r2, r3⟩ := run_append_own (P := P) w base t o.type e i z size bytes h1 h2 h3 h4 h5 h6 h7 v k xs hown ad m c news hn hc h1c b1 b2 b3
  unfold Oper.wpIn
  refine ⟨?_, ?_⟩
  · simp [Oper.about, hop, resolve, Target.leads, Sem.run_pure]
  · rw [Oper.semAt_plain F _ _ (by rw [hop]; intro c hc'; cases hc')]
    simp [execOp, hop, resolve, invoke, builtin, hs, hx, hrun, Result.andThen]
    exact hK' _ _ (hK v' w' r1 r2 (run_drawn _ _ _ _ hrun))

/-- What an own slice of numbers holds, as rows. -/
theorem ownsRow_row {W : World} {base : Nat} {e : TypeId} {v : Value} {k : Nat} {xs : List Int} (h : W.ownsRow base e 1 v k (xs.map (Value.int .i64))) : k = xs.length ∧ ((v = .slice none 0 0 ∧ xs = []) ∨
    ∃ g cap cur, v = .slice (some ⟨g, 0, none⟩) xs.length cap ∧ base ≤ g ∧ W.heap[g]? = some (.cells cur e (0, 0)) ∧ xs.length ≤ cap ∧ cur.size = cap ∧ ∀ j (hj : j < xs.length), cur[j]? = some (.int .i64 xs[j])) := by
  have hk : k = xs.length := by have := h.1; simpa using this.symm
  subst hk
  refine ⟨rfl, h.2.imp (fun ⟨h1, h2⟩ => ⟨h1, List.eq_nil_of_length_eq_zero h2⟩) ?_⟩
  rintro ⟨g, cap, cur, rfl, hb, hg, h1, h2, h3, h4⟩
  refine ⟨g, cap, cur, rfl, hb, hg, h1, by simpa using h3, fun j hj => ?_⟩
  have h5 : (cur.toList.take (xs.length * 1))[j]? = some (.int .i64 xs[j]) := by rw [h4]; simp [hj]
  rw [List.getElem?_take] at h5
  rw [if_pos (by omega)] at h5
  simpa using h5

end Go.Aw
