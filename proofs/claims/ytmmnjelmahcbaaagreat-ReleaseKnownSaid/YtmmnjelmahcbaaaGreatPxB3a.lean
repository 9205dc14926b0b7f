/-
  Contract of the reference: a rate checked. No condition.
-/
import Derived.Test.YtmmnjelmahcbaaaGreatPkF
namespace Go.Aw
set_option linter.unusedSimpArgs false
set_option linter.unusedVariables false
open Go.RowKit Go.Proofs Go.Nt Go.Rl

end Go.Aw
