/-
  The statement about the error of an acceptance over all results. No condition.
-/
import Derived.Test.YtmmnjelmahcbaaaGreatPkG
namespace Go.Aw
set_option linter.unusedSimpArgs false
set_option linter.unusedVariables false
open Go.RowKit Go.Proofs Go.Nt Go.Rl

end Go.Aw
