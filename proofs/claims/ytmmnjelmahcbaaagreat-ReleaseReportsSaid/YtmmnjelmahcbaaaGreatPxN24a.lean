/-
  Sorted rows of numbers: plain lemmas. No condition.
-/
import Derived.Test.YtmmnjelmahcbaaaGreatPxS2
import Derived.Test.YtmmnjelmahcbaaaGreatPkD
namespace Go.Aw
set_option linter.unusedSimpArgs false
set_option linter.unusedVariables false
open Go.RowKit Go.Proofs Go.Nt Go.Rl

theorem sortI_len (xs : List Int) : (sortI xs).length = xs.length := by simp [sortI]
theorem sortI_perm (xs : List Int) : (sortI xs).Perm xs := List.mergeSort_perm _ _
theorem sortI_asc (xs : List Int) : (sortI xs).Pairwise (fun a b => a ≤ b) := by
  have := List.pairwise_mergeSort (le := fun (x y : Int) => decide (x ≤ y)) (fun a b c h1 h2 => by simp only [decide_eq_true_eq] at *; omega) (fun a b => by simp only [Bool.or_eq_true, decide_eq_true_eq]; omega) xs
  exact this.imp fun h => by simpa using h
theorem ins_perm {l : List Int} {x : Int} {t : Nat} {ys : List Int} (h : l.Perm ys) : (l.take t ++ x :: l.drop t).Perm (ys ++ [x]) := by
  have h1 : (l.take t ++ x :: l.drop t).Perm (x :: (l.take t ++ l.drop t)) := List.perm_middle
  rw [List.take_append_drop] at h1
  exact h1.trans ((h.cons x).trans (List.perm_append_singleton x ys).symm)
end Go.Aw
