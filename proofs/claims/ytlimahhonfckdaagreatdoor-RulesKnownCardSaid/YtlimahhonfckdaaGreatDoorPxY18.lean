/-
  Watches: the reference's Begin,a watch of one's own,equal watches,equal verdicts. Conditions: lengths that fit.
-/
import Derived.Test.YtlimahhonfckdaaGreatDoorPxU73
import Derived.Test.YtlimahhonfckdaaGreatDoorPxU41
import Derived.Test.YtlimahhonfckdaaGreatDoorPxAwBt
namespace Go.Aw
set_option linter.unusedSimpArgs false
set_option linter.unusedVariables false
open Go.RowKit Go.Proofs
set_option maxRecDepth 100000

theorem q54 (l:List (Int × Bool)) (hl:l.length≤1000000) : PD Tryz.prog 54 [.sl (l.map encSd),.sl (l.map encSd)] (.d (.bool true)):=by
  have hq:∀ row,row∈l.map encSd→row.length=2:=fun row hr=>by obtain ⟨_,_,rfl⟩:=List.mem_map.1 hr; rfl
  have bl:∀ b:Bool,(b != b)=false:=fun b=>by cases b <;> rfl
  have bq:∀ b:Bool,(b==b)=true:=fun b=>by cases b <;> rfl
  refine pd_of (fn:=Tryz.f54) [.tmp 4] (by kernel_rfl) rfl (by kernel_rfl) (Nat.le_of_ble_eq_true rfl) (by kernel_rfl) rfl rfl ?_
  (repeat' (first | refine awp_seq ?_ | refine awp_skip ?_ | refine awp_block ?_ | ((first | ((fail_if_success refine awpF_region (id:=3) ?_); refine awpF_region ?_; intro K hK) | (refine awpF_draw (id:=6) [0,1,2,3,4,5,6,7,8] (by kernel_rfl) (by kernel_rfl) rfl ?_; intro K hK)); simp only [push_cast,seval,bne_self_eq_false]; refine wObW ?_) | (refine hK _ ?_; clear hK K) | (refine wCd ?_ ?_) | (with_reducible intro hb; exfalso; revert hb; simp [bne_self_eq_false]; done) | (with_reducible intro hb; exfalso; replace hb:=wHb hb; omega; done) | (with_reducible intro hb; replace hb:=wHb hb) | (refine wEx ?_) | (refine wRp ?_; refine fin_of (by simp only [push_cast,seval,bne_self_eq_false]; first | done | rfl) ob1 ?_) | (refine inblock_norm ?_)))
  refine wRg ?_
  refine awp_block ?_
  refine awp_loopP (α:=Nat) (st:=fun i=>⟨[(0,.d (.sl (l.map encSd))),(1,.d (.sl (l.map encSd))),(5,.d (.int .i64 i))],[]⟩) (inv:=fun i=>i≤l.length) (μ:=fun i=>l.length - i) (x0:=0) (r0:=[]) (Nat.zero_le _) ?_ ?_
  · exact wRen
  intro i hi
  refine awp_seq ?_
  refine awp_seq ?_
  refine wRg ?_
  refine wCd ?_ ?_
  · intro h1; replace h1:=wHb h1
    have hlt:i<l.length:=by omega
    obtain ⟨x,hx⟩ : ∃ x,l[i]? = some x:=⟨_,List.getElem?_eq_getElem hlt⟩
    obtain ⟨a,b⟩:=x
    refine awp_skip ?_
    refine awp_seq ?_
    refine awp_block ?_
    refine awp_seq ?_
    refine awpF_draw [0,1,2,3,4,5,6,7,8] (by kernel_rfl) (by kernel_rfl) rfl ?_; intro K hK; simp only [push_cast,seval,hx,encSd,Int.toNat_natCast,beq_self_eq_true,bne_self_eq_false,bl,bq]
    refine wOb ?_
    refine hK _ ?_; clear hK K
    refine wCd ?_ ?_
    · intro h
      exfalso
      simp at h
    intro _
    refine awp_skip ?_
    refine inblock_norm ?_
    refine wRg ?_
    refine round_endG (i+1) [] ⟨by omega,by omega,?_⟩
    push_cast
    exact wRen
  · intro h1; replace h1:=wHb h1
    refine wEx ?_
    refine awp_seq ?_
    refine wRg ?_
    refine wRet ?_
    rfl
end Go.Aw
