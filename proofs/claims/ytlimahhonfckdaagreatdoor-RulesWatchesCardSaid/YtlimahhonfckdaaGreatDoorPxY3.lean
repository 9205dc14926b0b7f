/-
  The reference's CheckWatch. Conditions: a valid watch; lengths that fit.
-/
import Derived.Test.YtlimahhonfckdaaGreatDoorPxU72
import Derived.Test.YtlimahhonfckdaaGreatDoorRuH
import Derived.Test.YtlimahhonfckdaaGreatDoorRuB
namespace Go.Aw
set_option linter.unusedSimpArgs false
set_option linter.unusedVariables false
open Go.RowKit Go.Proofs
set_option maxRecDepth 100000

set_option maxHeartbeats 1000000 in
theorem q83 (w:Wt) (t:Fm) (hf:w.nodes.length≤1000000) (ht:shE w.nodes w.width=0→t.wf∧w.nodes=t.flat) (hw:cwE w t=0) : PD Tryz.prog 83 [.agg (wtD w)] (.d (.int .i64 0)):=by
  obtain ⟨c1,c2,c3,c4,c5,c6⟩:=watch_facts hw
  obtain ⟨f,wd,fr,T,O⟩:=w
  simp only at hf ht c1 c2 c3 c4 c5 c6
  have h17:=p17 f wd t hf ht
  have h21:=p21 T wd
  rw [c1] at h17
  rw [c2] at h21
  have hs:=chk_sh c1
  obtain ⟨t1,t2⟩:=ht hs
  obtain ⟨hf40,hno,_⟩:=sh_facts hs
  obtain ⟨_,_,hT4,_⟩:=tr_facts c2
  have h52:=p52 f T t ⟨t1,by rw [List.drop_zero,Nat.zero_add,← t2,List.drop_length,List.append_nil]⟩ (by rw [t2]) (by omega) (by omega) hno (fun n hn h2=>cols_of (firstE_mem hs n hn) h2 c2)
  have hb:(bif decide (fr<0) then true else decide (fr > 1099511627776))=false:=by
    rw [decide_eq_false (by omega),decide_eq_false (by omega)]; rfl
  have d1:decide (fr<0)=false:=decide_eq_false (by omega)
  have d2:decide (fr > 1099511627776)=false:=decide_eq_false (by omega)
  simp only [wtD]
  refine pd_of (fn:=Tryz.f83) [.tmp 2] (by kernel_rfl) rfl (by kernel_rfl) (Nat.le_of_ble_eq_true rfl) (by kernel_rfl) rfl rfl ?_
  (repeat' (first | refine awp_seq ?_ | refine awp_skip ?_ | refine awp_block ?_ | ((first | ((fail_if_success refine awpF_region (id:=9) ?_); refine awpF_region ?_; intro K hK) | (refine awpF_draw (id:=16) [0,1,2,3,4,5,6,7,8,9,10,11,12,13,14,15,16,17,18,19,20,21,22,23,24] (by kernel_rfl) (by kernel_rfl) rfl ?_; intro K hK) | (refine awpF_draw (id:=21) [0,1,2,3,4,5,6,7,8,9] (by kernel_rfl) (by kernel_rfl) rfl ?_; intro K hK) | refine CallK.pd (h17) ?_ | refine CallK.pg (fun _=>h17) ?_ | refine CallK.pd (h21) ?_ | refine CallK.pg (fun _=>h21) ?_); simp only [push_cast,seval,bne_self_eq_false,d1,d2]; refine wObW ?_) | (refine hK _ ?_; clear hK K) | (refine wCd ?_ ?_) | (with_reducible intro hb; exfalso; revert hb; simp [bne_self_eq_false,d1,d2]; done) | (with_reducible intro hb; exfalso; replace hb:=wHb hb; omega; done) | (with_reducible intro hb; replace hb:=wHb hb) | (refine wEx ?_) | (refine wRp ?_; refine fin_of (by simp only [push_cast,seval,bne_self_eq_false,d1,d2]; first | done | rfl) ob1 ?_) | (refine inblock_norm ?_)))
  refine wRg ?_
  refine awp_virt 5 1 (by simp only [push_cast,seval]) ?_
  refine awp_seq ?_
  refine awpF_region ?_; intro K hK; simp only [push_cast,seval]
  refine CallK.pd (h52) ?_; refine wXo ?_
  refine hK _ ?_; clear hK K
  refine awp_seq ?_
  refine awp_seq ?_
  refine wRg ?_
  refine awp_block ?_
  refine awp_loopP (α:=Nat) (st:=fun i=>⟨[(1,.ptr 0 0 0),(5,.ref 1 0 (opJ t T fr i).length),(6,.d (.sl ((vdRow T t).map encI))),(7,.d (.int .i64 i))],[.cells [.d (.sl (f.map encNd)),.d (.int .i64 wd),.d (.int .i64 fr),.d (.sl (T.map encR)),.d (.sl (O.map encI))],.data 1 ((opJ t T fr i).map encI)]⟩)
    (inv:=fun i=>i≤T.length) (μ:=fun i=>T.length - i) (x0:=0) (r0:=[0,1]) (Nat.zero_le _) ?_ ?_
  · simp only [opJ_zero]
    exact wRen
  intro i hi
  refine awp_seq ?_
  refine awp_seq ?_
  refine wRg ?_
  refine wCd ?_ ?_
  · intro h3; replace h3:=wHb h3
    have hil:i<T.length:=by omega
    have hvr:=vdRow_get T t i
    rw [Nat.min_eq_left (by omega)] at hvr
    have hst:=opJ_step t T fr i
    have hln:=opJ_len t T fr i
    have hvl:=vdRow_len T t
    generalize vd t T i=v at *
    generalize opJ t T fr i=U at *
    have tU:(U.map encI).take U.length=U.map encI:=List.take_of_length_le (by simp)
    refine awp_skip ?_
    refine awp_seq ?_
    refine awp_block ?_
    refine awp_seq ?_
    refine awpF_region ?_; intro K hK; simp only [push_cast,seval,hvr,encI,Int.toNat_natCast]; refine wKk hK ?_; clear hK K
    refine wCd ?_ ?_
    · intro h4
      have h4':v=2:=by
        have:((v:Int)==2)=true:=h4
        simp at this
        omega
      rw [if_pos h4'] at hst
      refine awpF_region ?_; intro K hK; simp only [push_cast,seval,tU]; refine wKk hK ?_; clear hK K
      refine inblock_norm ?_
      refine wRg ?_
      refine round_endG (i+1) [0,1] ⟨by omega,by omega,?_⟩
      rw [hst]
      push_cast
      refine ⟨by simp,by simp,by simp [push_cast,seval,encI],by simp [push_cast,seval],by simp [push_cast,seval],by simp [push_cast,seval]⟩
    · intro h4
      have h4':v≠2:=by
        rintro rfl
        cases h4
      rw [if_neg h4',List.append_nil] at hst
      refine awp_skip ?_
      refine inblock_norm ?_
      refine wRg ?_
      refine round_endG (i+1) [0,1] ⟨by omega,by omega,?_⟩
      rw [hst]
      push_cast
      exact wRen
  · intro h3; replace h3:=wHb h3
    obtain rfl:i=T.length:=by omega
    rw [opJ_all,c5]
    have tO:(O.map encI).take O.length=O.map encI:=List.take_of_length_le (by simp)
    refine wEx ?_
    have hOl1:O.length≤400:=by rw [← c5]; have:=openL_len t T fr; omega
    refine awp_fz (.ref 1 0 0) ?_
    simp only [push_cast,seval,St.fz,St.frz,Blk.rowsD,List.drop_zero,tO]
    have hqO:∀ row,row∈O.map encI→row.length=1:=fun row hr=>by obtain ⟨_,_,rfl⟩:=List.mem_map.1 hr; rfl
    refine awp_seq ?_
    refine awp_mid (fun u=>u=⟨[(1,.ptr 0 0 0),(5,.d (.sl (O.map encI))),(81,.d (.bool false))],[.cells [.d (.sl (f.map encNd)),.d (.int .i64 wd),.d (.int .i64 fr),.d (.sl (T.map encR)),.d (.sl (O.map encI))]]⟩) ?_ ?_
    · by_cases hT0:T=[]
      · have hOn:O=[]:=by rw [← c5,hT0]; rfl
        have d3:decide ((T.length:Int) > 0)=false:=decide_eq_false (by rw [hT0]; simp)
        rw [hOn]
        refine awpF_draw [0,1,2,3,4,5,6,7,8,9,10,11,12,13,14,15,16,17,18,19,20,21,22,23,24] (by kernel_rfl) (by kernel_rfl) rfl ?_; intro K hK; simp only [push_cast,seval,bne_self_eq_false,d3,List.map_nil,List.length_nil,List.getElem?_nil,Option.getD_none,List.getD_nil]
        refine wOb ?_
        refine hK _ ?_
        clear hK K
        refine mid_end [0] _ rfl ?_
        exact wRen
      · have d3:decide ((T.length:Int) > 0)=true:=decide_eq_true (by have:=List.length_pos_iff.2 hT0; omega)
        have h6:=c6 hT0
        have hO0:O[0]? = some fr:=by rw [← List.head?_eq_getElem?]; exact h6
        have hOl:=(List.getElem?_eq_some_iff.1 hO0).1
        have d4:((O.length:Int)==0)=false:=beq_eq_false_iff_ne.2 (by omega)
        refine awpF_draw [0,1,2,3,4,5,6,7,8,9,10,11,12,13,14,15,16,17,18,19,20,21,22,23,24] (by kernel_rfl) (by kernel_rfl) rfl ?_; intro K hK; simp only [push_cast,seval,bne_self_eq_false,d3,d4,hO0,encI,Int.toNat_zero]
        refine wOb ?_
        refine hK _ ?_
        clear hK K
        refine mid_end [0] _ rfl ?_
        exact wRen
    rintro _ rfl
    refine wCd ?_ ?_
    · intro h; cases h
    intro _
    refine awp_skip ?_
    refine awp_seq ?_
    refine awp_seq ?_
    refine wRg ?_
    refine awp_block ?_
    refine awp_loopP (α:=Nat) (st:=fun i=>⟨[(1,.ptr 0 0 0),(5,.d (.sl (O.map encI))),(8,.d (.int .i64 i))],[.cells [.d (.sl (f.map encNd)),.d (.int .i64 wd),.d (.int .i64 fr),.d (.sl (T.map encR)),.d (.sl (O.map encI))]]⟩)
      (inv:=fun i=>i≤O.length) (μ:=fun i=>O.length - i) (x0:=0) (r0:=[0]) (Nat.zero_le _) ?_ ?_
    · exact wRen
    intro i hi
    refine awp_seq ?_
    refine awp_seq ?_
    refine wRg ?_
    refine wCd ?_ ?_
    · intro h4; replace h4:=wHb h4
      have hil:i<O.length:=by omega
      obtain ⟨x,hx⟩ : ∃ x,O[i]? = some x:=⟨_,List.getElem?_eq_getElem hil⟩
      refine awp_skip ?_
      refine awp_seq ?_
      refine awp_block ?_
      refine awp_seq ?_
      refine awpF_draw [0,1,2,3,4,5,6,7,8,9] (by kernel_rfl) (by kernel_rfl) rfl ?_; intro K hK; simp only [push_cast,seval,hx,encI,Int.toNat_natCast,bne_self_eq_false]
      refine wOb ?_
      refine hK _ ?_; clear hK K
      refine wCd ?_ ?_
      · intro h; cases h
      intro _
      refine awp_skip ?_
      refine inblock_norm ?_
      refine wRg ?_
      refine round_endG (i+1) [0] ⟨by omega,by omega,?_⟩
      push_cast
      exact wRen
    · intro h4; replace h4:=wHb h4
      refine wEx ?_
      refine awp_seq ?_
      refine wRg ?_
      refine wRet ?_
      rfl
end Go.Aw
