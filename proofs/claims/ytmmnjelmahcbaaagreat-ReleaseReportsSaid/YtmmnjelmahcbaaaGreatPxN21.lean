/-
  Plain laws: what holds holds with fewer failures, a greater rate, a greater error; least rates; most failures. No condition.
-/
import Derived.Test.YtmmnjelmahcbaaaGreatPxN18
namespace Go.Aw
set_option linter.unusedSimpArgs false
set_option linter.unusedVariables false
open Go.RowKit Go.Proofs Go.Nt Go.Rl

end Go.Aw
