/-
  Contracts of the reference: stages, checked one by one and in their order. Conditions: a length that fits.
-/
import Derived.Test.YtmmnjelmahcbaaaGreatPxN36
import Derived.Test.YtmmnjelmahcbaaaGreatPxB3a
namespace Go.Aw
set_option linter.unusedSimpArgs false
set_option linter.unusedVariables false
open Go.RowKit Go.Proofs Go.Nt Go.Rl

end Go.Aw
