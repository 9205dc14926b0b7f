/-
  Contracts: a plan out of pairs of numbers. No condition.
-/
import Derived.Test.YtmmnjelmahcbaaaGreatPxN33
import Derived.Test.YtmmnjelmahcbaaaGreatPkG
import Derived.Test.YtmmnjelmahcbaaaGreatPkD
namespace Go.Aw
set_option linter.unusedSimpArgs false
set_option linter.unusedVariables false
open Go.RowKit Go.Proofs Go.Nt Go.Rl

end Go.Aw
