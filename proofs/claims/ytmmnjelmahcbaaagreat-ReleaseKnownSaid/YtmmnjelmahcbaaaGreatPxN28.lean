/-
  Contracts: the order of a release's parts, the reference's side. No condition.
-/
import Derived.Test.YtmmnjelmahcbaaaGreatPxN27
namespace Go.Aw
set_option linter.unusedSimpArgs false
set_option linter.unusedVariables false
open Go.RowKit Go.Proofs Go.Nt Go.Rl

def upto (k : Nat) : List Int := (List.range k).map fun (i : Nat) => (i : Int)
theorem upto_len (k : Nat) : (upto k).length = k := by simp [upto]
theorem upto_succ (k : Nat) : upto (k + 1) = upto k ++ [(k : Int)] := by simp [upto, List.range_succ]
theorem upto_mem {k : Nat} {x : Int} : x ∈ upto k ↔ 0 ≤ x ∧ x < k := by
  unfold upto
  simp only [List.mem_map, List.mem_range]
  constructor
  · rintro ⟨i, hi, rfl⟩; omega
  · rintro ⟨h1, h2⟩; exact ⟨x.toNat, by omega, by omega⟩
def sortK (n : Int) (xs : List Int) : List Int := xs.mergeSort fun x y => !(decide (ordI n y x < 0))
theorem sortK_perm (n : Int) (xs : List Int) : (sortK n xs).Perm xs := List.mergeSort_perm _ _
theorem keyLt_trans {n a b c : Int} (h1 : keyLt n a b) (h2 : keyLt n b c) : keyLt n a c := by unfold keyLt at *; omega
theorem keyLt_tri {n a b : Int} (h1 : ¬ keyLt n a b) (h2 : ¬ keyLt n b a) : a = b := by unfold keyLt at *; omega
theorem keyLt_asymm {n a b : Int} (h1 : keyLt n a b) : ¬ keyLt n b a := by unfold keyLt at *; omega
theorem sortK_pair (n : Int) (xs : List Int) : (sortK n xs).Pairwise fun a b => ¬ keyLt n b a := by
  have := List.pairwise_mergeSort (le := fun (x y : Int) => !(decide (ordI n y x < 0))) (fun a b c h1 h2 => by
    simp only [Bool.not_eq_true', decide_eq_false_iff_not, ordI_neg] at *
    unfold keyLt at *; omega) (fun a b => by
    simp only [Bool.or_eq_true, Bool.not_eq_true', decide_eq_false_iff_not, ordI_neg]
    unfold keyLt; omega) xs
  exact this.imp fun h => by simpa only [Bool.not_eq_true', decide_eq_false_iff_not, ordI_neg] using h
theorem sortK_uniq {n : Int} {xs l : List Int} (hd : l.Pairwise (keyLt n)) (hp : l.Perm xs) : l = sortK n xs := by
  refine List.Perm.eq_of_pairwise (le := fun a b => ¬ keyLt n b a) (fun a b _ _ h1 h2 => keyLt_tri h2 h1) (hd.imp fun h => keyLt_asymm h) (sortK_pair n xs) (hp.trans (sortK_perm n xs).symm)
def ordB (n k : Int) : Bool := decide (0 ≤ n ∧ n ≤ 1000000 ∧ 1 ≤ k ∧ k ≤ 64)
def ordD (n k : Int) : List Int := if ordB n k then sortK n (upto k.toNat) else []

end Go.Aw
