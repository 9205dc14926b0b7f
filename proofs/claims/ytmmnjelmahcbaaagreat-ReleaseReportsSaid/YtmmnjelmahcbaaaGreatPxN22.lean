/-
  Contracts: the least rate that is shown to hold; the greatest number of failures. No condition.
-/
import Derived.Test.YtmmnjelmahcbaaaGreatPxN21
namespace Go.Aw
set_option linter.unusedSimpArgs false
set_option linter.unusedVariables false
open Go.RowKit Go.Proofs Go.Nt Go.Rl

end Go.Aw
