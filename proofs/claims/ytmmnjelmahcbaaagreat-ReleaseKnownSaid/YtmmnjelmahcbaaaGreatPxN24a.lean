/-
  Sorted rows of numbers: plain lemmas. No condition.
-/
import Derived.Test.YtmmnjelmahcbaaaGreatPxS2
import Derived.Test.YtmmnjelmahcbaaaGreatPkD
namespace Go.Aw
set_option linter.unusedSimpArgs false
set_option linter.unusedVariables false
open Go.RowKit Go.Proofs Go.Nt Go.Rl

theorem sortI_len (xs : List Int) : (sortI xs).length = xs.length := by simp [sortI]
theorem sortI_perm (xs : List Int) : (sortI xs).Perm xs := List.mergeSort_perm _ _
theorem sortI_asc (xs : List Int) : (sortI xs).Pairwise (fun a b => a ≤ b) := by
  have := List.pairwise_mergeSort (le := fun (x y : Int) => decide (x ≤ y)) (fun a b c h1 h2 => by simp only [decide_eq_true_eq] at *; omega) (fun a b => by simp only [Bool.or_eq_true, decide_eq_true_eq]; omega) xs
  exact this.imp fun h => by simpa using h
def descL (l : List Int) : Prop := l.Pairwise fun a b => b ≤ a
theorem desc_uniq {xs l : List Int} (hd : descL l) (hp : l.Perm xs) : l = (sortI xs).reverse := by
  refine List.Perm.eq_of_pairwise (le := fun a b : Int => b ≤ a) (fun a b _ _ h1 h2 => by omega) hd (List.pairwise_reverse.2 (sortI_asc xs)) ?_
  exact hp.trans ((sortI_perm xs).symm.trans (List.reverse_perm _).symm)
end Go.Aw
