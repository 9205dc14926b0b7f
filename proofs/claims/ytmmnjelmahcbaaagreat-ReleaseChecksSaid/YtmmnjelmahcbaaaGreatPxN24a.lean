/-
  Sorted rows of numbers: plain lemmas. No condition.
-/
import Derived.Test.YtmmnjelmahcbaaaGreatPxS2
import Derived.Test.YtmmnjelmahcbaaaGreatPkD
namespace Go.Aw
set_option linter.unusedSimpArgs false
set_option linter.unusedVariables false
open Go.RowKit Go.Proofs Go.Nt Go.Rl

theorem sortI_len (xs : List Int) : (sortI xs).length = xs.length := by simp [sortI]
theorem sortI_perm (xs : List Int) : (sortI xs).Perm xs := List.mergeSort_perm _ _
theorem sortI_asc (xs : List Int) : (sortI xs).Pairwise (fun a b => a ≤ b) := by
  have := List.pairwise_mergeSort (le := fun (x y : Int) => decide (x ≤ y)) (fun a b c h1 h2 => by simp only [decide_eq_true_eq] at *; omega) (fun a b => by simp only [Bool.or_eq_true, decide_eq_true_eq]; omega) xs
  exact this.imp fun h => by simpa using h
def descL (l : List Int) : Prop := l.Pairwise fun a b => b ≤ a
theorem desc_uniq {xs l : List Int} (hd : descL l) (hp : l.Perm xs) : l = (sortI xs).reverse := by
  refine List.Perm.eq_of_pairwise (le := fun a b : Int => b ≤ a) (fun a b _ _ h1 h2 => by omega) hd (List.pairwise_reverse.2 (sortI_asc xs)) ?_
  exact hp.trans ((sortI_perm xs).symm.trans (List.reverse_perm _).symm)
theorem ins_desc {l : List Int} {x : Int} {t : Nat} (hd : descL l) (ht : t ≤ l.length) (h1 : ∀ j (hj : j < l.length), t ≤ j → l[j] < x) (h2 : t = 0 ∨ ∃ h : t - 1 < l.length, x ≤ l[t - 1]) : descL (l.take t ++ x :: l.drop t) := by
  unfold descL at *
  rw [List.pairwise_append]
  have hlow : ∀ b, b ∈ l.drop t → b < x := fun b hb => by
    obtain ⟨j, hj, rfl⟩ := List.getElem_of_mem hb
    rw [List.getElem_drop]
    exact h1 _ _ (by omega)
  have hhigh : ∀ a, a ∈ l.take t → x ≤ a := fun a ha => by
    obtain ⟨j, hj, rfl⟩ := List.getElem_of_mem ha
    simp only [List.length_take] at hj
    rw [List.getElem_take]
    rcases h2 with rfl | ⟨h, h2⟩
    · omega
    · rcases Nat.lt_or_ge j (t - 1) with h3 | h3
      · have := (List.pairwise_iff_getElem.1 hd) j (t - 1) (by omega) h h3
        omega
      · have : j = t - 1 := by omega
        subst this; exact h2
  refine ⟨hd.sublist (List.take_sublist _ _), List.pairwise_cons.2 ⟨fun b hb => by have := hlow b hb; omega, hd.sublist (List.drop_sublist _ _)⟩, fun a ha b hb => ?_⟩
  have h3 := hhigh a ha
  rcases List.mem_cons.1 hb with rfl | hb
  · exact h3
  · have := hlow b hb; omega
theorem ins_perm {l : List Int} {x : Int} {t : Nat} {ys : List Int} (h : l.Perm ys) : (l.take t ++ x :: l.drop t).Perm (ys ++ [x]) := by
  have h1 : (l.take t ++ x :: l.drop t).Perm (x :: (l.take t ++ l.drop t)) := List.perm_middle
  rw [List.take_append_drop] at h1
  exact h1.trans ((h.cons x).trans (List.perm_append_singleton x ys).symm)
end Go.Aw
