/-
  Plans: their states are well formed, who holds the new version. No condition.
-/
import Derived.Test.YtmmnjelmahcbaaaGreatPxN34
import Derived.Test.YtmmnjelmahcbaaaGreatPkG
import Derived.Test.YtmmnjelmahcbaaaGreatPkD
namespace Go.Aw
set_option linter.unusedSimpArgs false
set_option linter.unusedVariables false
open Go.RowKit Go.Proofs Go.Nt Go.Rl

theorem share_in {n k p : Int} (h : shareB n k p = true) (x : Int) : x ∈ shareD n k p ↔ x ∈ (sortK n (upto k.toNat)).take (partN k.toNat p.toNat) := by
  unfold shareD
  rw [if_pos h]
  exact (sortI_perm _).mem_iff
end Go.Aw
