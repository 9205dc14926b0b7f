/-
  Contract of the reference's Hull. Conditions: none (what is not valid is refused).
-/
import Derived.Test.YtecindhbaekncaaGreatPxH5i
import Derived.Test.YtecindhbaekncaaGreatPcD
import Derived.Test.YtecindhbaekncaaGreatPxH6a
namespace Go.Aw
set_option linter.unusedSimpArgs false
set_option linter.unusedVariables false
open Go.RowKit Go.Proofs Go.Rg

end Go.Aw
