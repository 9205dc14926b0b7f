/-
  RulesChecks answers true. Conditions: lengths that a slice can have.
-/
import Derived.Test.YtlimahhonfckdaaGreatDoorRuF
import Derived.Test.YtlimahhonfckdaaGreatDoorRuB
namespace Go.Aw
set_option linter.unusedSimpArgs false
set_option linter.unusedVariables false
open Go.RowKit Go.Proofs
set_option maxRecDepth 100000

end Go.Aw
