/-
  Contracts: the order of a release's parts, the reference's side. No condition.
-/
import Derived.Test.YtmmnjelmahcbaaaGreatPxN27
namespace Go.Aw
set_option linter.unusedSimpArgs false
set_option linter.unusedVariables false
open Go.RowKit Go.Proofs Go.Nt Go.Rl

def upto (k : Nat) : List Int := (List.range k).map fun (i : Nat) => (i : Int)
theorem upto_len (k : Nat) : (upto k).length = k := by simp [upto]
theorem upto_succ (k : Nat) : upto (k + 1) = upto k ++ [(k : Int)] := by simp [upto, List.range_succ]
def sortK (n : Int) (xs : List Int) : List Int := xs.mergeSort fun x y => !(decide (ordI n y x < 0))
theorem sortK_perm (n : Int) (xs : List Int) : (sortK n xs).Perm xs := List.mergeSort_perm _ _
theorem keyLt_trans {n a b c : Int} (h1 : keyLt n a b) (h2 : keyLt n b c) : keyLt n a c := by unfold keyLt at *; omega
theorem keyLt_tri {n a b : Int} (h1 : ¬ keyLt n a b) (h2 : ¬ keyLt n b a) : a = b := by unfold keyLt at *; omega
def ordB (n k : Int) : Bool := decide (0 ≤ n ∧ n ≤ 1000000 ∧ 1 ≤ k ∧ k ≤ 64)
def ordD (n k : Int) : List Int := if ordB n k then sortK n (upto k.toNat) else []

end Go.Aw
