/-
  Contract of the reference's Reduce. Conditions: none (what is not valid is refused).
-/
import Derived.Test.YtecindhbaekncaaPxI13
namespace Go.Aw
set_option linter.unusedSimpArgs false
set_option linter.unusedVariables false
open Go.RowKit Go.Proofs Go.Rg

end Go.Aw
