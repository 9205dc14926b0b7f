/-
  Texts of the library, one behind the other. Over any program; no condition.
-/
import Derived.Test.YtmmnjelmahcbaaaGreatPkE
import Derived.Test.YtmmnjelmahcbaaaGreatPkF
import Derived.Test.YtmmnjelmahcbaaaGreatPxB3a
import Derived.Test.YtmmnjelmahcbaaaGreatPxN22
namespace Go.Aw
set_option linter.unusedSimpArgs false
set_option linter.unusedVariables false
open Go.RowKit Go.Proofs Go.Nt

end Go.Aw

namespace Go.Aw
set_option linter.unusedSimpArgs false
set_option linter.unusedVariables false
open Go.RowKit Go.Proofs Go.Nt

end Go.Aw

namespace Go.Aw
set_option linter.unusedSimpArgs false
set_option linter.unusedVariables false
open Go.RowKit Go.Proofs Go.Nt Go.Rl

end Go.Aw

namespace Go.Aw
set_option linter.unusedSimpArgs false
set_option linter.unusedVariables false
open Go.RowKit Go.Proofs Go.Nt Go.Rl

end Go.Aw
