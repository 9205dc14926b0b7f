/-
  Drawn regions in three parts: what only computes; then,by a tree of orders,what touches new blocks alone; then the rest,one after the other. Over any program; no condition.
-/
import Derived.Test.YtlimahhonfckdaaGreatDoorPkT
import Derived.Test.YtlimahhonfckdaaGreatDoorPkY
namespace Go.Aw
set_option linter.unusedSimpArgs false
set_option linter.unusedVariables false
open Go.RowKit

variable {P:Program}
section
variable {ops:Array Oper} {Q:Exit→Act→World→Prop} {T:Nat→Bool} {wb:World}
def finR (P:Program) (kp:List Nat) (ops:Array Oper) (fin:List Nat) (H0:List Blk) (u:St) (K:St→Prop) : Prop:=contRun P kp ops (.vc (fin.filterMap (ops[·]?))) ⟨u.tm,H0++u.heap.drop H0.length⟩ K
def midR (P:Program) (kp:List Nat) (ops:Array Oper) (d:DT) (fin:List Nat) (t:St) (K:St→Prop) : Prop:=contRun P (List.range t.heap.length) ops (.dt d) ⟨t.tm,hid t.heap⟩ fun u=>finR P kp ops fin t.heap u K
theorem finR_mk {kp:List Nat} {fin:List Nat} {H0:List Blk} {tm:List (Nat × V)} {H:List Blk} {K:St→Prop} : finR P kp ops fin H0 ⟨tm,H⟩ K=contRun P kp ops (.vc (fin.filterMap (ops[·]?))) ⟨tm,H0++H.drop H0.length⟩ K:=rfl
theorem midR_mk {kp:List Nat} {d:DT} {fin:List Nat} {tm:List (Nat × V)} {H:List Blk} {K:St→Prop} : midR P kp ops d fin ⟨tm,H⟩ K=contRun P (List.range H.length) ops (.dt d) ⟨tm,hid H⟩ fun u=>finR P kp ops fin H u K:=rfl
attribute [push_cast] finR_mk midR_mk
end
end Go.Aw
