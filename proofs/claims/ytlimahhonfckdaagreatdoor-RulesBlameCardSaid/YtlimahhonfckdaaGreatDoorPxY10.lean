/-
  The reference's Possible: equal rows, what is asked of a formula, a plant and rows, what is possible. Conditions: lengths that fit.
-/
import Derived.Test.YtlimahhonfckdaaGreatDoorPxY9
import Derived.Test.YtlimahhonfckdaaGreatDoorRuH
import Derived.Test.YtlimahhonfckdaaGreatDoorRuL
namespace Go.Aw
set_option linter.unusedSimpArgs false
set_option linter.unusedVariables false
open Go.RowKit Go.Proofs
set_option maxRecDepth 100000

theorem any_take {L : List (List Int)} {g : List Int → Bool} {k : Nat} {r : List Int} (h : L[k]? = some r) : (L.take (k + 1)).any g = ((L.take k).any g || g r) := by
  rw [List.take_add_one, h, List.any_append]
  simp
end Go.Aw
