/-
  Contracts of Blocks, on both sides. Conditions: none (spots that are not valid are refused).
-/
import Derived.Test.YtecindhbaekncaaPxH2
namespace Go.Aw
set_option linter.unusedSimpArgs false
set_option linter.unusedVariables false
open Go.RowKit Go.Proofs Go.Rg

end Go.Aw
