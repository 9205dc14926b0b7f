/-
  slices.Values, Collect, Sorted over a row of numbers, and slices.Sort of an own row. Conditions: lengths that fit.
-/
import Derived.RangeFuncLeaves
import Derived.Test.YtmmnjelmahcbaaaGreatPxS0
import Derived.Test.YtmmnjelmahcbaaaGreatPxSx
namespace Go.Aw
set_option linter.unusedSimpArgs false
set_option linter.unusedVariables false
open Go.RowKit Go.Proofs Go.Shelf Go.Sort
attribute [local go_sem] Oper.semAt_some

def sortI (zs : List Int) : List Int := zs.mergeSort fun x y => decide (x ≤ y)
end Go.Aw
