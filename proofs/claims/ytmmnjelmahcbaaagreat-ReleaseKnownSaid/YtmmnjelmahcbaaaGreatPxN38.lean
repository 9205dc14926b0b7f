/-
  ReleaseStays: its plain laws. No condition.
-/
import Derived.Test.YtmmnjelmahcbaaaGreatPxN37
import Derived.Test.YtmmnjelmahcbaaaGreatPxN35a
namespace Go.Aw
set_option linter.unusedSimpArgs false
set_option linter.unusedVariables false
open Go.RowKit Go.Proofs Go.Nt Go.Rl

end Go.Aw
