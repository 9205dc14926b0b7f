/-
  The formula made of numbers is valid. Conditions: numbers that fit.
-/
import Derived.Test.YtlimahhonfckdaaGreatDoorRuK
namespace Go.Aw
set_option linter.unusedSimpArgs false
set_option linter.unusedVariables false
open Go.RowKit Go.Proofs
set_option maxRecDepth 100000

def numsOk (l:List Int) : Prop:=l.length≤1000000000000000∧∀ x,x∈l → -9223372036854775808≤x∧x≤9223372036854775807
def ruleT (l:List Int) (w most:Int) : Fm:=(partT l w most 3 0).1
theorem rule_W (l:List Int) {w most:Int} (hw:1≤w∧w≤12) (hm:0≤most∧most≤20) : FmW w most 3 (ruleT l w most):=part_W l hw hm 3 0
theorem rule_len (l:List Int) {w most:Int} (hw:1≤w∧w≤12) (hm:0≤most∧most≤20) : (ruleT l w most).flat.length≤15:=by
  have:=(rule_W l hw hm).len
  omega
end Go.Aw
