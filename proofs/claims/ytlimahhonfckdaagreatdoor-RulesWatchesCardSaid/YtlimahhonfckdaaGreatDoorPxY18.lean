/-
  Watches: the reference's Begin,a watch of one's own,equal watches,equal verdicts. Conditions: lengths that fit.
-/
import Derived.Test.YtlimahhonfckdaaGreatDoorPxU73
import Derived.Test.YtlimahhonfckdaaGreatDoorPxU41
import Derived.Test.YtlimahhonfckdaaGreatDoorPxAwBt
namespace Go.Aw
set_option linter.unusedSimpArgs false
set_option linter.unusedVariables false
open Go.RowKit Go.Proofs
set_option maxRecDepth 100000

theorem q14 (f:List Nd) (w:Int) (t:Fm) (hf:f.length≤1000000) (ht:shE f w=0→t.wf∧f=t.flat) : PD Tryz.prog 14 [.sl (f.map encNd),.int .i64 w] (.tup [.agg (wtV (bgW f w t)),.d (.int .i64 (chkE f w t))]):=by
  have h17:=p17 f w t hf ht
  have hqf:∀ row,row∈f.map encNd→row.length=6∧row.all D.leaf=true:=fun r h=>encNd_row h
  have tf:(f.map encNd).take f.length=f.map encNd:=List.take_of_length_le (by simp)
  unfold bgW
  generalize chkE f w t=e at *
  by_cases he:e=0
  · subst he
    rw [if_pos rfl]
    refine pdv_of (fn:=Tryz.f14) [.cell 4 31,.tmp 5] (by kernel_rfl) rfl (by kernel_rfl) (Nat.le_of_ble_eq_true rfl) (by kernel_rfl) rfl ?_
    (repeat' (first | refine awp_seq ?_ | refine awp_skip ?_ | refine awp_block ?_ | ((first | ((fail_if_success refine awpF_region (id:=4) ?_); refine awpF_region ?_; intro K hK) | refine CallK.pd (h17) ?_ | refine CallK.pg (fun _=>h17) ?_); simp only [push_cast,seval,bne_self_eq_false]; refine wObW ?_) | (refine hK _ ?_; clear hK K) | (refine wCd ?_ ?_) | (with_reducible intro hb; exfalso; revert hb; simp [bne_self_eq_false]; done) | (with_reducible intro hb; exfalso; replace hb:=wHb hb; omega; done) | (with_reducible intro hb; replace hb:=wHb hb) | (refine wEx ?_) | (refine wRp ?_; refine fin_of (by simp only [push_cast,seval,bne_self_eq_false]; first | done | rfl) ob1 ?_) | (refine inblock_norm ?_)))
    refine awpF_region ?_; intro K hK; simp only [push_cast,seval,tf]; refine wKk hK ?_; clear hK K
    refine wRet ?_
    exact DeepV.tups (DeepV.cons (DeepV.aggs (DeepV.cons (DeepV.row rfl (by simp)) (DeepV.cons (.dd _) (DeepV.cons (.dd _) (DeepV.cons .nil (DeepV.cons .nil DeepV.nils)))))) (DeepV.cons (.dd _) DeepV.nils))
  · rw [if_neg he]
    have hb1:(e != 0)=true:=by simpa using he
    refine pdv_of (fn:=Tryz.f14) [.cell 4 31,.tmp 5] (by kernel_rfl) rfl (by kernel_rfl) (Nat.le_of_ble_eq_true rfl) (by kernel_rfl) rfl ?_
    (repeat' (first | refine awp_seq ?_ | refine awp_skip ?_ | refine awp_block ?_ | ((first | (refine awpF_region ?_; intro K hK) | refine CallK.pd (h17) ?_ | refine CallK.pg (fun _=>h17) ?_); simp only [push_cast,seval,hb1]; refine wObW ?_) | (refine hK _ ?_; clear hK K) | (refine wCd ?_ ?_) | (with_reducible intro hb; exfalso; revert hb; simp [hb1]; done) | (with_reducible intro hb; exfalso; replace hb:=wHb hb; omega; done) | (with_reducible intro hb; replace hb:=wHb hb) | (refine wEx ?_) | (refine wRp ?_; refine fin_of (by simp only [push_cast,seval,hb1]; first | done | rfl) ob1 ?_) | (refine inblock_norm ?_)))
    exact DeepV.tups (DeepV.cons (DeepV.aggs (DeepV.cons .nil (DeepV.cons (.dd _) (DeepV.cons (.dd _) (DeepV.cons .nil (DeepV.cons .nil DeepV.nils)))))) (DeepV.cons (.dd _) DeepV.nils))
set_option maxHeartbeats 4000000 in
theorem q51 (w:Wt) (hf:w.nodes.length≤1000000) (hr:w.rows.length≤1000000) (hr2:∀ r,r∈w.rows→r.length≤1000000) (ho:w.opn.length≤1000000) : PD Tryz.prog 51 [.agg (wtD w)] (.agg (wtV w)):=by
  obtain ⟨f,wd,fr,T,O⟩:=w
  simp only at hf hr hr2 ho
  have h14:=p14 f hf
  have h15:=p15 T hr (fun r h=>by have:=hr2 r h; omega)
  have hqO:∀ r,r∈O.map encI→r.length=1∧r.all D.leaf=true:=fun r h=>encI_row h
  have tO:(O.map encI).take O.length=O.map encI:=List.take_of_length_le (by simp)
  simp only [wtD,ofD] at *
  refine pdv_of (fn:=Tryz.f51) [.cell 2 31] (by kernel_rfl) rfl (by kernel_rfl) (Nat.le_of_ble_eq_true rfl) (by kernel_rfl) rfl ?_
  refine awp_seq ?_
  refine wRg ?_
  refine awp_seq ?_
  refine awpF_drawBT [0,1,3,4,5,6,7,8,11,12] (DT.or (DT.op 2 (DT.or (DT.op 9 (DT.op 10 (DT.op 13 DT.nil))) (DT.op 10 (DT.op 9 (DT.op 13 DT.nil))))) (DT.op 10 (DT.op 2 (DT.op 9 (DT.op 13 DT.nil))))) [2,9,10,13] [14,15] (by kernel_rfl) (by kernel_rfl) (by kernel_rfl) ?_; intro K hK; apply dt_close; (rotate_left; (intro fin; (focus (simp only [push_cast,seval,hid,List.map_cons,List.map_nil,List.length_cons,List.length_nil,List.drop_succ_cons,List.drop_zero,List.cons_append,List.nil_append,tO]; (try simp (disch:=omega) only [wrapI]); (repeat' (first | exact fin | (with_reducible refine And.intro ?_ ?_) | (refine CallK.pd (h14) ?_; simp only [push_cast,seval,hid,List.map_cons,List.map_nil,List.length_cons,List.length_nil,List.drop_succ_cons,List.drop_zero,List.cons_append,List.nil_append,tO]; (try simp (disch:=omega) only [wrapI])) | (refine CallK.pd (h15) ?_; simp only [push_cast,seval,hid,List.map_cons,List.map_nil,List.length_cons,List.length_nil,List.drop_succ_cons,List.drop_zero,List.cons_append,List.nil_append,tO]; (try simp (disch:=omega) only [wrapI])) | exact ob1)))))); refine hK _ ?_; clear hK K
  refine wRet ?_
  exact DeepV.aggs (DeepV.cons (.dd _) (DeepV.cons (.dd _) (DeepV.cons (.dd _) (DeepV.cons (.dd _) (DeepV.cons (DeepV.row rfl (by simp)) DeepV.nils)))))
theorem q15 (w:Wt) (hf:w.nodes.length≤1000000) (hr:w.rows.length≤1000000) (hr2:∀ r,r∈w.rows→r.length≤1000000) (ho:w.opn.length≤1000000) : PD Tryz.prog 15 [.agg (wtD w),.agg (wtD w)] (.d (.bool true)):=by
  obtain ⟨f,wd,fr,T,O⟩:=w
  simp only at hf hr hr2 ho
  have h22:=p22 f f hf
  have h23:=p23 T T hr (fun r h=>by have:=hr2 r h; omega)
  have h34:=p34 O O (by omega)
  rw [decide_eq_true rfl] at h22 h23
  rw [beq_self_eq_true] at h34
  simp only [wtD]
  refine pd_of (fn:=Tryz.f15) [.tmp 4] (by kernel_rfl) rfl (by kernel_rfl) (Nat.le_of_ble_eq_true rfl) (by kernel_rfl) rfl rfl ?_
  (repeat' (first | refine awp_seq ?_ | refine awp_skip ?_ | refine awp_block ?_ | ((first | (refine awpF_region ?_; intro K hK) | refine CallK.pd (h22) ?_ | refine CallK.pg (fun _=>h22) ?_ | refine CallK.pd (h23) ?_ | refine CallK.pg (fun _=>h23) ?_ | refine CallK.pd (h34) ?_ | refine CallK.pg (fun _=>h34) ?_); simp only [push_cast,seval,beq_self_eq_true]; refine wObW ?_) | (refine hK _ ?_; clear hK K) | (refine wCd ?_ ?_) | (with_reducible intro hb; exfalso; revert hb; simp [beq_self_eq_true]; done) | (with_reducible intro hb; exfalso; replace hb:=wHb hb; omega; done) | (with_reducible intro hb; replace hb:=wHb hb) | (refine wEx ?_) | (refine wRp ?_; refine fin_of (by simp only [push_cast,seval,beq_self_eq_true]; first | done | rfl) ob1 ?_) | (refine inblock_norm ?_)))
  rfl
theorem q54 (l:List (Int × Bool)) (hl:l.length≤1000000) : PD Tryz.prog 54 [.sl (l.map encSd),.sl (l.map encSd)] (.d (.bool true)):=by
  have hq:∀ row,row∈l.map encSd→row.length=2:=fun row hr=>by obtain ⟨_,_,rfl⟩:=List.mem_map.1 hr; rfl
  have bl:∀ b:Bool,(b != b)=false:=fun b=>by cases b <;> rfl
  have bq:∀ b:Bool,(b==b)=true:=fun b=>by cases b <;> rfl
  refine pd_of (fn:=Tryz.f54) [.tmp 4] (by kernel_rfl) rfl (by kernel_rfl) (Nat.le_of_ble_eq_true rfl) (by kernel_rfl) rfl rfl ?_
  (repeat' (first | refine awp_seq ?_ | refine awp_skip ?_ | refine awp_block ?_ | ((first | ((fail_if_success refine awpF_region (id:=3) ?_); refine awpF_region ?_; intro K hK) | (refine awpF_draw (id:=6) [0,1,2,3,4,5,6,7,8] (by kernel_rfl) (by kernel_rfl) rfl ?_; intro K hK)); simp only [push_cast,seval,bne_self_eq_false]; refine wObW ?_) | (refine hK _ ?_; clear hK K) | (refine wCd ?_ ?_) | (with_reducible intro hb; exfalso; revert hb; simp [bne_self_eq_false]; done) | (with_reducible intro hb; exfalso; replace hb:=wHb hb; omega; done) | (with_reducible intro hb; replace hb:=wHb hb) | (refine wEx ?_) | (refine wRp ?_; refine fin_of (by simp only [push_cast,seval,bne_self_eq_false]; first | done | rfl) ob1 ?_) | (refine inblock_norm ?_)))
  refine wRg ?_
  refine awp_block ?_
  refine awp_loopP (α:=Nat) (st:=fun i=>⟨[(0,.d (.sl (l.map encSd))),(1,.d (.sl (l.map encSd))),(5,.d (.int .i64 i))],[]⟩) (inv:=fun i=>i≤l.length) (μ:=fun i=>l.length - i) (x0:=0) (r0:=[]) (Nat.zero_le _) ?_ ?_
  · exact wRen
  intro i hi
  refine awp_seq ?_
  refine awp_seq ?_
  refine wRg ?_
  refine wCd ?_ ?_
  · intro h1; replace h1:=wHb h1
    have hlt:i<l.length:=by omega
    obtain ⟨x,hx⟩ : ∃ x,l[i]? = some x:=⟨_,List.getElem?_eq_getElem hlt⟩
    obtain ⟨a,b⟩:=x
    refine awp_skip ?_
    refine awp_seq ?_
    refine awp_block ?_
    refine awp_seq ?_
    refine awpF_draw [0,1,2,3,4,5,6,7,8] (by kernel_rfl) (by kernel_rfl) rfl ?_; intro K hK; simp only [push_cast,seval,hx,encSd,Int.toNat_natCast,beq_self_eq_true,bne_self_eq_false,bl,bq]
    refine wOb ?_
    refine hK _ ?_; clear hK K
    refine wCd ?_ ?_
    · intro h
      exfalso
      simp at h
    intro _
    refine awp_skip ?_
    refine inblock_norm ?_
    refine wRg ?_
    refine round_endG (i+1) [] ⟨by omega,by omega,?_⟩
    push_cast
    exact wRen
  · intro h1; replace h1:=wHb h1
    refine wEx ?_
    refine awp_seq ?_
    refine wRg ?_
    refine wRet ?_
    rfl
end Go.Aw
