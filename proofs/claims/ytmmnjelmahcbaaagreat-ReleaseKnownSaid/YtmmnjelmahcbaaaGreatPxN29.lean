/-
  Contracts: the share of a release, the reference's side. No condition.
-/
import Derived.Test.YtmmnjelmahcbaaaGreatPxN28
namespace Go.Aw
set_option linter.unusedSimpArgs false
set_option linter.unusedVariables false
open Go.RowKit Go.Proofs Go.Nt Go.Rl

/-- How many a share is. -/
def partN (k p : Nat) : Nat := (k * p + 99) / 100
theorem partN_le {k p : Nat} (h : p ≤ 100) : partN k p ≤ k := by
  unfold partN
  have : k * p ≤ k * 100 := Nat.mul_le_mul_left _ h
  omega
def shareB (n k p : Int) : Bool := ordB n k && decide (0 ≤ p ∧ p ≤ 100)
def shareD (n k p : Int) : List Int := if shareB n k p then sortI ((sortK n (upto k.toNat)).take (partN k.toNat p.toNat)) else []
theorem sortK_len (n : Int) (xs : List Int) : (sortK n xs).length = xs.length := (sortK_perm n xs).length_eq
theorem sortK_mem {n : Int} {k : Nat} {x : Int} : x ∈ sortK n (upto k) ↔ 0 ≤ x ∧ x < k := by rw [(sortK_perm n _).mem_iff, upto_mem]
end Go.Aw
