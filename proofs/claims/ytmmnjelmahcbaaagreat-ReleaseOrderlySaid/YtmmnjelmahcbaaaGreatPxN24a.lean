/-
  Sorted rows of numbers: plain lemmas. No condition.
-/
import Derived.Test.YtmmnjelmahcbaaaGreatPxS2
import Derived.Test.YtmmnjelmahcbaaaGreatPkD
namespace Go.Aw
set_option linter.unusedSimpArgs false
set_option linter.unusedVariables false
open Go.RowKit Go.Proofs Go.Nt Go.Rl

theorem sortI_len (xs : List Int) : (sortI xs).length = xs.length := by simp [sortI]
end Go.Aw
