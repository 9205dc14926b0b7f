/-
  RulesChecks answers true. Conditions: lengths that a slice can have.
-/
import Derived.Test.YtlimahhonfckdaaGreatDoorRuF
import Derived.Test.YtlimahhonfckdaaGreatDoorRuB
namespace Go.Aw
set_option linter.unusedSimpArgs false
set_option linter.unusedVariables false
open Go.RowKit Go.Proofs
set_option maxRecDepth 100000

theorem p15 (t:List (List Int)) (ht:t.length≤1000000) (hr:∀ r,r∈t→r.length≤1000000000000) : PD Tryz.prog 79 [.sl (t.map encR)] (.d (.sl (t.map encR))):=by
  have hq:∀ row,row∈t.map encR→row.length=1:=fun row hr=>by obtain ⟨_,_,rfl⟩:=List.mem_map.1 hr; rfl
  refine pdv_of (fn:=Tryz.f79) [.tmp 2] (by kernel_rfl) rfl (by kernel_rfl) (Nat.le_of_ble_eq_true rfl) (by kernel_rfl) rfl ?_
  refine awp_seq ?_
  refine wRg ?_
  refine awp_seq ?_
  refine wRg ?_
  refine awp_seq ?_
  refine awp_seq ?_
  refine wRg ?_
  refine awp_virt 3 1 (by simp only [push_cast,seval]) ?_
  refine awp_block ?_
  refine awp_loopP (α:=Nat) (st:=fun i=>⟨[(0,.d (.sl (t.map encR))),(3,.ref 0 0 i),(4,.d (.int .i64 i))],[.data 1 ((t.take i).map encR)]⟩)
    (inv:=fun i=>i≤t.length) (μ:=fun i=>t.length - i) (x0:=0) (r0:=[0]) (Nat.zero_le _) ?_ ?_
  · exact wRen
  intro i hi
  have hil:((t.take i).map encR).length=i:=by simp; omega
  have htk:List.take i ((t.take i).map encR)=(t.take i).map encR:=List.take_of_length_le (by omega)
  have hqR:∀ row,row∈((t.take i).map encR)→row.length=1:=fun row hr=>by obtain ⟨_,_,rfl⟩:=List.mem_map.1 hr; rfl
  refine awp_seq ?_
  refine awp_seq ?_
  refine wRg ?_
  refine wCd ?_ ?_
  · intro h1; replace h1:=wHb h1
    have hlt:i<t.length:=by omega
    obtain ⟨v,hv⟩ : ∃ v,t[i]? = some v:=⟨_,List.getElem?_eq_getElem hlt⟩
    have hvl:=hr v (List.mem_of_getElem? hv)
    have hqv:∀ row,row∈v.map encI→row.length=1:=fun row hr=>by obtain ⟨_,_,rfl⟩:=List.mem_map.1 hr; rfl
    refine awp_skip ?_
    refine awp_seq ?_
    refine awp_block ?_
    have hqw:∀ row,row∈v.map encI→row.length=1∧row.all D.leaf=true:=fun row hr=>by obtain ⟨_,_,rfl⟩:=List.mem_map.1 hr; exact ⟨rfl,rfl⟩
    have hvk:List.take v.length (v.map encI)=v.map encI:=List.take_of_length_le (by simp)
    refine awpF_region ?_; intro K hK; simp only [push_cast,seval,hv,encR,Int.toNat_natCast,htk,hvk]
    refine wOb ?_
    refine hK _ ?_; clear hK K
    refine inblock_norm ?_
    refine wRg ?_
    refine round_endG (i+1) ([0]) ⟨by omega,by omega,?_⟩
    have e:(t.take (i+1)).map encR=(t.take i).map encR++[[.sl (v.map encI)]]:=by
      rw [List.take_add_one,hv,List.map_append]
      rfl
    rw [e]
    push_cast
    exact wRen
  · intro h1; replace h1:=wHb h1
    obtain rfl:i=t.length:=by omega
    rw [List.take_length] at *
    refine wEx ?_
    refine awp_seq ?_
    refine wRg ?_
    refine wRet ?_
    exact DeepV.row rfl hil.symm
theorem cells_bd:∀ {t:List (List Int)} {M:Nat},(∀ r,r∈t→r.length≤M)→cellsV t≤t.length*M
  | [],_,_=>by simp [cellsV]
  | r::t,M,h=>by
    have h1:=cells_bd (t:=t) (M:=M) fun q hq=>h q (by simp [hq])
    have h2:=h r (by simp)
    simp only [cellsV,List.map_cons,List.sum_cons,List.length_cons] at h1 ⊢
    rw [Nat.succ_mul]
    omega
theorem cells_mem:∀ {t:List (List Int)} {r:List Int},r∈t→r.length≤cellsV t
  | [],_,h=>by cases h
  | q::t,r,h=>by
    simp only [cellsV,List.map_cons,List.sum_cons]
    rcases List.mem_cons.1 h with rfl | h
    · omega
    · have:=cells_mem h
      simp only [cellsV] at this
      omega
theorem cells_small {t:List (List Int)} {k:Nat} (hr:∀ r,r∈t→r.length≤1000000000000000) (ht:t.length≤1000) (h:IntKind.i64.wrap (cellsV t)≤k) : cellsV t≤k:=by
  have h1:=cells_bd hr
  have h2:t.length*1000000000000000≤1000*1000000000000000:=Nat.mul_le_mul_right _ ht
  rw [wrapI _ (by omega)] at h
  omega
end Go.Aw
