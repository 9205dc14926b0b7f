/-
  The plant and the rows that numbers make; equal lists of whole numbers; a number in a list. Conditions: numbers and lengths that fit.
-/
import Derived.Test.YtlimahhonfckdaaGreatDoorPxY6
import Derived.Test.YtlimahhonfckdaaGreatDoorPxU55
import Derived.Test.YtlimahhonfckdaaGreatDoorPxU44a
namespace Go.Aw
set_option linter.unusedSimpArgs false
set_option linter.unusedVariables false
open Go.RowKit Go.Proofs
set_option maxRecDepth 100000

theorem q31 (a b:List Int) (ha:a.length≤1000000) : PD Tryz.prog 31 [.sl (a.map encI),.sl (b.map encI)] (.d (.bool (decide (a=b)))):=by
  have hqa:∀ row,row∈a.map encI→row.length=1:=fun row hr=>by obtain ⟨_,_,rfl⟩:=List.mem_map.1 hr; rfl
  have hqb:∀ row,row∈b.map encI→row.length=1:=fun row hr=>by obtain ⟨_,_,rfl⟩:=List.mem_map.1 hr; rfl
  have hlen:a.length≠b.length→decide (a=b)=false:=fun h=>decide_eq_false fun e=>h (by rw [e])
  refine pd_of (fn:=Tryz.f31) [.tmp 4] (by kernel_rfl) rfl (by kernel_rfl) (Nat.le_of_ble_eq_true rfl) (by kernel_rfl) rfl rfl ?_
  refine awp_seq ?_
  refine wRg ?_
  refine awp_seq ?_
  refine awp_seq ?_
  refine wRg ?_
  refine awp_block ?_
  refine awp_loopP (α:=Nat) (st:=fun i=>⟨[(0,.d (.sl (a.map encI))),(1,.d (.sl (b.map encI))),(5,.d (.int .i64 i))],[]⟩)
    (inv:=fun i=>i≤a.length∧i≤b.length∧∀ j,j<i→a[j]? = b[j]?) (μ:=fun i=>a.length - i) (x0:=0) (r0:=[]) ⟨Nat.zero_le _,Nat.zero_le _,fun j hj=>absurd hj (Nat.not_lt_zero j)⟩ ?_ ?_
  · exact wRen
  rintro i ⟨hi,hib,he⟩
  refine awp_seq ?_
  refine awp_seq ?_
  by_cases h1:i<a.length∧i<b.length
  · have d1:decide ((i:Int)<(a.length:Int))=true:=decide_eq_true (by omega)
    have d2:decide ((i:Int)<(b.length:Int))=true:=decide_eq_true (by omega)
    refine awpF_region ?_; intro K hK; simp only [push_cast,seval,d1,d2]; refine wKk hK ?_; clear hK K
    refine wCd ?_ ?_
    · intro _
      obtain ⟨x,hx⟩ : ∃ x,a[i]? = some x:=⟨_,List.getElem?_eq_getElem h1.1⟩
      obtain ⟨y,hy⟩ : ∃ y,b[i]? = some y:=⟨_,List.getElem?_eq_getElem h1.2⟩
      refine awp_skip ?_
      refine awp_seq ?_
      refine awp_block ?_
      refine awp_seq ?_
      refine awpF_draw [0,1,2,3,4,5,6,7,8] (by kernel_rfl) (by kernel_rfl) rfl ?_; intro K hK; simp only [push_cast,seval,hx,hy,encI,Int.toNat_natCast]
      refine wOb ?_
      refine hK _ ?_; clear hK K
      by_cases hxy:x=y
      · have d3:(x != y)=false:=by rw [hxy]; exact bne_self_eq_false y
        rw [d3]
        refine wCd ?_ ?_
        · intro h; cases h
        intro _
        refine awp_skip ?_
        refine inblock_norm ?_
        refine wRg ?_
        refine round_endG (i+1) [] ⟨by omega,⟨by omega,by omega,fun j hj => ?_⟩,?_⟩
        · rcases Nat.lt_or_ge j i with h | h
          · exact he j h
          · obtain rfl:j=i:=by omega
            rw [hx,hy,hxy]
        · push_cast
          exact wRen
      · have d3:(x != y)=true:=by simpa using hxy
        rw [d3]
        have hne:decide (a=b)=false:=decide_eq_false fun e=>by
          rw [e,hy] at hx
          exact hxy (Option.some.inj hx).symm
        refine wCd ?_ ?_
        · intro _
          refine awp_seq ?_
          refine wRg ?_
          refine wRet ?_
          rw [hne]
        · intro h; cases h
    · intro h; cases h
  · have hfin:((a.length:Int)==(b.length:Int))=decide (a=b):=by
      by_cases hab:a.length=b.length
      · have heq:a=b:=List.ext_getElem? fun j=>by
          rcases Nat.lt_or_ge j i with h | h
          · exact he j h
          · rw [List.getElem?_eq_none (by omega),List.getElem?_eq_none (by omega)]
        rw [heq,decide_eq_true rfl]
        simp
      · rw [hlen hab]
        exact beq_eq_false_iff_ne.2 (by omega)
    by_cases h3:i<a.length
    · have d1:decide ((i:Int)<(a.length:Int))=true:=decide_eq_true (by omega)
      have d2:decide ((i:Int)<(b.length:Int))=false:=decide_eq_false (by omega)
      refine awpF_region ?_; intro K hK; simp only [push_cast,seval,d1,d2]; refine wKk hK ?_; clear hK K
      refine wCd ?_ ?_
      · intro h; cases h
      intro _
      refine wEx ?_
      refine awp_seq ?_
      refine wRg ?_
      refine wRet ?_
      rw [hfin]
    · have d1:decide ((i:Int)<(a.length:Int))=false:=decide_eq_false (by omega)
      refine awpF_region ?_; intro K hK; simp only [push_cast,seval,d1]; refine wKk hK ?_; clear hK K
      refine wCd ?_ ?_
      · intro h; cases h
      intro _
      refine wEx ?_
      refine awp_seq ?_
      refine wRg ?_
      refine wRet ?_
      rw [hfin]
end Go.Aw
