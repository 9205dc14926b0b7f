/-
  Texts of the library,one behind the other. Over any program; no condition.
-/
import Derived.Test.YtlimahhonfckdaaGreatDoorPkT
import Derived.Test.YtlimahhonfckdaaGreatDoorRuI
namespace Go.Aw
set_option linter.unusedSimpArgs false
set_option linter.unusedVariables false
open Go.RowKit Go.Proofs
set_option maxRecDepth 100000

end Go.Aw

namespace Go.Aw
set_option linter.unusedSimpArgs false
set_option linter.unusedVariables false
open Go.RowKit Go.Proofs
set_option maxRecDepth 100000

end Go.Aw

namespace Go.Aw
set_option linter.unusedSimpArgs false
set_option linter.unusedVariables false
open Go.RowKit Go.Proofs
set_option maxRecDepth 100000

end Go.Aw
