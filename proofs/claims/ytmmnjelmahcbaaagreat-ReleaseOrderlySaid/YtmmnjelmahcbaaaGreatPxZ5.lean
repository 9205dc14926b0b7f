/-
  Releases as they are read. No condition.
-/
import Derived.Test.YtmmnjelmahcbaaaGreatPxN36
import Derived.Test.YtmmnjelmahcbaaaGreatPkD
namespace Go.Aw
set_option linter.unusedSimpArgs false
set_option linter.unusedVariables false
open Go.RowKit Go.Proofs Go.Nt Go.Rl

end Go.Aw
