/-
  The reference's numbers and words in texts. Conditions: numbers and lengths that fit.
-/
import Derived.Lib.ItoaLen
import Derived.Test.YtlimahhonfckdaaDoorRuF
import Derived.Test.YtlimahhonfckdaaDoorPkT
namespace Go.Aw
set_option linter.unusedSimpArgs false
set_option linter.unusedVariables false
open Go.RowKit Go.Proofs
set_option maxRecDepth 100000

def encS (w : List UInt8) : List D := [.str (bs w)]
end Go.Aw
