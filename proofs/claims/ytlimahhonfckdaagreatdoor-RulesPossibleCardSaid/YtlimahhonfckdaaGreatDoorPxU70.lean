/-
  Watches on the program's side: rows that are equal,own rows,open positions. Conditions: lengths that fit.
-/
import Derived.Test.YtlimahhonfckdaaGreatDoorRuE
import Derived.Test.YtlimahhonfckdaaGreatDoorRuL
import Derived.Test.YtlimahhonfckdaaGreatDoorRuM
namespace Go.Aw
set_option linter.unusedSimpArgs false
set_option linter.unusedVariables false
open Go.RowKit Go.Proofs
set_option maxRecDepth 100000

end Go.Aw
