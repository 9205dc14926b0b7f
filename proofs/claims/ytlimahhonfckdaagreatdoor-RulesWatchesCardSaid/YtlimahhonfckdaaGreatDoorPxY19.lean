/-
  Push of the reference. Conditions: a valid watch,lengths that fit.
-/
import Derived.Test.YtlimahhonfckdaaGreatDoorPxY3
import Derived.Test.YtlimahhonfckdaaGreatDoorPxU41
import Derived.Test.YtlimahhonfckdaaGreatDoorPxAwBt
namespace Go.Aw
set_option linter.unusedSimpArgs false
set_option linter.unusedVariables false
open Go.RowKit Go.Proofs
set_option maxRecDepth 100000

def frS (nx:Int) : List Int→V
  | []=>.d (.int .i64 nx)
  | x::_=>.d (.int .i64 x)
def rwS (fr:Int) (T:List (List Int)) : List Int→V
  | []=>.nil
  | x::_=>.d (.sl ((T.drop (x - fr).toNat).map encR))
set_option maxHeartbeats 8000000 in
theorem q53 (w:Wt) (t:Fm) (row:List Int) (hf:w.nodes.length≤1000000) (ht:shE w.nodes w.width=0→t.wf∧w.nodes=t.flat) (hc:cwE w t=0) (hrow:row.length≤1000000) (hfr:w.fr+(w.rows.length:Int)<1099511627776) :
    PD Tryz.prog 53 [.agg (wtD w),.sl (row.map encI)] (.tup [.agg (wtV (puW t w row)),.d (.sl ((puS t w row).map encSd)),.d (.int .i64 (pushE t w row))]):=by
  have hE:pushE t w row=if cwE w t≠0 then cwE w t else if trE [row] w.width≠0 then trE [row] w.width else if 1099511627776≤w.fr+(w.rows.length:Int) then 8 else 0:=rfl
  rw [if_neg (by simpa using hc)] at hE
  obtain ⟨c1,c2,c3,c4,c5,c6⟩:=watch_facts hc
  obtain ⟨_,_,hr4,hrr⟩:=tr_facts c2
  have ho:w.opn.length≤1000000:=by rw [← c5]; have:=openL_len t w.rows w.fr; omega
  have h83:=q83 w t hf ht hc
  have h21:=p21 [row] w.width
  simp only [List.map_cons,List.map_nil,encR] at h21
  by_cases htr:trE [row] w.width=0
  rotate_left
  · rw [if_pos htr] at hE
    have e1:puW t w row=wt0:=by rw [puW,hE,if_neg htr]
    have e2:puS t w row=[]:=by rw [puS,hE,if_neg htr]
    rw [e1,e2,hE]
    obtain ⟨f,wd,fr,T,O⟩:=w
    simp only [wtD] at *
    have hb1:(trE [row] wd != 0)=true:=by simpa using htr
    generalize trE [row] wd=e at *
    refine pdv_of (fn:=Tryz.f53) [.cell 4 31,.tmp 5,.tmp 6] (by kernel_rfl) rfl (by kernel_rfl) (Nat.le_of_ble_eq_true rfl) (by kernel_rfl) rfl ?_
    (repeat' (first | refine awp_seq ?_ | refine awp_skip ?_ | refine awp_block ?_ | ((first | (refine awpF_region ?_; intro K hK) | (refine awpF_draw (id:=16) [1,2,4,5,6,7,0,3,8,9,10] (by kernel_rfl) (by kernel_rfl) rfl ?_; intro K hK) | (refine awpF_draw (id:=23) [0,1,2,3,4,5,6,7,8,9,10] (by kernel_rfl) (by kernel_rfl) rfl ?_; intro K hK) | (refine awpF_drawM (id:=27) [0,1,2,3,4,5,6,7,13] [] (DT.or (DT.op 8 (DT.or (DT.op 9 (DT.or (DT.op 10 (DT.or (DT.op 11 (DT.or (DT.op 12 (DT.op 14 (DT.op 15 (DT.op 16 DT.nil)))) (DT.op 14 (DT.op 12 (DT.op 15 (DT.op 16 DT.nil)))))) (DT.op 14 (DT.op 11 (DT.op 12 (DT.op 15 (DT.op 16 DT.nil))))))) (DT.op 14 (DT.op 10 (DT.op 11 (DT.op 12 (DT.op 15 (DT.op 16 DT.nil)))))))) (DT.op 14 (DT.op 9 (DT.op 10 (DT.op 11 (DT.op 12 (DT.op 15 (DT.op 16 DT.nil))))))))) (DT.or (DT.op 9 (DT.or (DT.op 8 (DT.or (DT.op 10 (DT.or (DT.op 11 (DT.or (DT.op 12 (DT.op 14 (DT.op 15 (DT.op 16 DT.nil)))) (DT.op 14 (DT.op 12 (DT.op 15 (DT.op 16 DT.nil)))))) (DT.op 14 (DT.op 11 (DT.op 12 (DT.op 15 (DT.op 16 DT.nil))))))) (DT.op 14 (DT.op 10 (DT.op 11 (DT.op 12 (DT.op 15 (DT.op 16 DT.nil)))))))) (DT.or (DT.op 10 (DT.or (DT.op 8 (DT.or (DT.op 11 (DT.or (DT.op 12 (DT.op 14 (DT.op 15 (DT.op 16 DT.nil)))) (DT.op 14 (DT.op 12 (DT.op 15 (DT.op 16 DT.nil)))))) (DT.op 14 (DT.op 11 (DT.op 12 (DT.op 15 (DT.op 16 DT.nil))))))) (DT.op 14 (DT.op 8 (DT.op 11 (DT.op 12 (DT.op 15 (DT.op 16 DT.nil)))))))) (DT.op 14 (DT.op 8 (DT.op 10 (DT.op 11 (DT.op 12 (DT.op 15 (DT.op 16 DT.nil)))))))))) (DT.op 14 (DT.op 8 (DT.op 9 (DT.op 10 (DT.op 11 (DT.op 12 (DT.op 15 (DT.op 16 DT.nil)))))))))) (by kernel_rfl) (by kernel_rfl) (by kernel_rfl) ?_; intro K hK) | (refine awpF_draw (id:=28) [0,1,2,3,4,5,6,7,8,9] (by kernel_rfl) (by kernel_rfl) rfl ?_; intro K hK) | refine CallK.pd (h83) ?_ | refine CallK.pg (fun _=>h83) ?_ | refine CallK.pd (h21) ?_ | refine CallK.pg (fun _=>h21) ?_); simp only [push_cast,seval,bne_self_eq_false,hb1]; refine wObW ?_) | (refine hK _ ?_; clear hK K) | (refine wCd ?_ ?_) | (with_reducible intro hb; exfalso; revert hb; simp [bne_self_eq_false,hb1]; done) | (with_reducible intro hb; exfalso; replace hb:=wHb hb; omega; done) | (with_reducible intro hb; replace hb:=wHb hb) | (refine wEx ?_) | (refine wRp ?_; refine fin_of (by simp only [push_cast,seval,bne_self_eq_false,hb1]; first | done | rfl) ob1 ?_) | (refine inblock_norm ?_)))
    exact deep_wt0 _
  rw [if_neg (by simpa using htr),if_neg (by omega)] at hE
  rw [htr] at h21
  have e1:puW t w row=pushW t w row:=by rw [puW,if_pos hE]
  have e2:puS t w row=saidL t w row:=by rw [puS,if_pos hE]
  rw [e1,e2,hE]
  have hs:=chk_sh c1
  obtain ⟨t1,t2⟩:=ht hs
  obtain ⟨hf40,hno,_⟩:=sh_facts hs
  have hf1:=t.len_pos
  rw [← t2] at hf1
  have hr60:=watch_rows hc t1 (fun n hn=>hno n (by rw [t2]; exact hn))
  have hT:trE (w.rows++[row]) w.width=0:=trE_app c2 htr (by rw [List.length_append,List.length_singleton]; omega)
  have h52:=p52 w.nodes (w.rows++[row]) t ⟨t1,by rw [List.drop_zero,Nat.zero_add,← t2,List.drop_length,List.append_nil]⟩ (by rw [t2]) (by omega) (by rw [List.length_append,List.length_singleton]; omega) hno (fun n hn h2=>cols_of (firstE_mem hs n hn) h2 hT)
  obtain ⟨f,wd,fr,T,O⟩:=w
  simp only [wtD] at *
  have happ:T.map encR++[[.sl (row.map encI)]]=(T++[row]).map encR:=by rw [List.map_append]; rfl
  have hlen:(T++[row]).length=T.length+1:=by rw [List.length_append]; rfl
  have hpE:saidL t ⟨f,wd,fr,T,O⟩ row=sdA t (T++[row]) fr (O++[fr+(T.length:Int)]) (O++[fr+(T.length:Int)]).length:=by
    rw [sdA,List.take_length]
    rfl
  have hpW:pushW t ⟨f,wd,fr,T,O⟩ row=pwM f wd fr (fr+(T.length:Int)+1) (T++[row]) (stA t (T++[row]) fr (O++[fr+(T.length:Int)]) (O++[fr+(T.length:Int)]).length):=by
    rw [stA,List.take_length]
    rfl
  rw [hpE,hpW]
  clear hpE hpW
  generalize hT':T++[row]=T' at *
  have tT':(T'.map encR).take (T.length+1)=T'.map encR:=List.take_of_length_le (by simp [hlen])
  have hA:O.map encI++[[.int .i64 (fr+(T.length:Int))]]=(O++[fr+(T.length:Int)]).map encI:=by rw [List.map_append]; rfl
  have hAl:(O++[fr+(T.length:Int)]).length=O.length+1:=by rw [List.length_append]; rfl
  have hAn:∀ x,x∈O++[fr+(T.length:Int)]→∃ n:Nat,x=fr+(n:Int)∧n≤T.length:=fun x hx=>by
    rcases List.mem_append.1 hx with h | h
    · rw [← c5,openL] at h
      obtain ⟨n,hn,rfl⟩:=List.mem_map.1 h
      have:=(opN_lt hn).1
      exact ⟨n,rfl,by omega⟩
    · exact ⟨T.length,List.mem_singleton.1 h,Nat.le_refl _⟩
  generalize O++[fr+(T.length:Int)]=A at *
  have tA:(A.map encI).take (O.length+1)=A.map encI:=List.take_of_length_le (by simp [hAl])
  have d1:decide (fr+(T.length:Int) ≥ 1099511627776)=false:=decide_eq_false (by omega)
  have trw:(row.map encI).take row.length=row.map encI:=List.take_of_length_le (by simp)
  have hqrow:∀ r,r∈row.map encI→r.length=1∧r.all D.leaf=true:=fun r h=>encI_row h
  have hqf:∀ r,r∈f.map encNd→r.length=6∧r.all D.leaf=true:=fun r h=>encNd_row h
  have hqO:∀ r,r∈O.map encI→r.length=1∧r.all D.leaf=true:=fun r h=>encI_row h
  have tf:(f.map encNd).take f.length=f.map encNd:=List.take_of_length_le (by simp)
  have tO:(O.map encI).take O.length=O.map encI:=List.take_of_length_le (by simp)
  have hqA:∀ r,r∈A.map encI→r.length=1:=fun r h=>(encI_row h).1
  have hqV:∀ r,r∈(vdRow T' t).map encI→r.length=1:=fun r h=>(encI_row h).1
  have hvl:=vdRow_len T' t
  refine pdv_of (fn:=Tryz.f53) [.cell 4 31,.tmp 5,.tmp 6] (by kernel_rfl) rfl (by kernel_rfl) (Nat.le_of_ble_eq_true rfl) (by kernel_rfl) rfl ?_
  (repeat' (first | refine awp_seq ?_ | refine awp_skip ?_ | refine awp_block ?_ | ((first | ((fail_if_success refine awpF_region (id:=10) ?_); refine awpF_region ?_; intro K hK) | (refine awpF_draw (id:=16) [1,2,4,5,6,7,0,3,8,9,10] (by kernel_rfl) (by kernel_rfl) rfl ?_; intro K hK) | (refine awpF_draw (id:=23) [0,1,2,3,4,5,6,7,8,9,10] (by kernel_rfl) (by kernel_rfl) rfl ?_; intro K hK) | (refine awpF_drawM (id:=27) [0,1,2,3,4,5,6,7,13] [] (DT.or (DT.op 8 (DT.or (DT.op 9 (DT.or (DT.op 10 (DT.or (DT.op 11 (DT.or (DT.op 12 (DT.op 14 (DT.op 15 (DT.op 16 DT.nil)))) (DT.op 14 (DT.op 12 (DT.op 15 (DT.op 16 DT.nil)))))) (DT.op 14 (DT.op 11 (DT.op 12 (DT.op 15 (DT.op 16 DT.nil))))))) (DT.op 14 (DT.op 10 (DT.op 11 (DT.op 12 (DT.op 15 (DT.op 16 DT.nil)))))))) (DT.op 14 (DT.op 9 (DT.op 10 (DT.op 11 (DT.op 12 (DT.op 15 (DT.op 16 DT.nil))))))))) (DT.or (DT.op 9 (DT.or (DT.op 8 (DT.or (DT.op 10 (DT.or (DT.op 11 (DT.or (DT.op 12 (DT.op 14 (DT.op 15 (DT.op 16 DT.nil)))) (DT.op 14 (DT.op 12 (DT.op 15 (DT.op 16 DT.nil)))))) (DT.op 14 (DT.op 11 (DT.op 12 (DT.op 15 (DT.op 16 DT.nil))))))) (DT.op 14 (DT.op 10 (DT.op 11 (DT.op 12 (DT.op 15 (DT.op 16 DT.nil)))))))) (DT.or (DT.op 10 (DT.or (DT.op 8 (DT.or (DT.op 11 (DT.or (DT.op 12 (DT.op 14 (DT.op 15 (DT.op 16 DT.nil)))) (DT.op 14 (DT.op 12 (DT.op 15 (DT.op 16 DT.nil)))))) (DT.op 14 (DT.op 11 (DT.op 12 (DT.op 15 (DT.op 16 DT.nil))))))) (DT.op 14 (DT.op 8 (DT.op 11 (DT.op 12 (DT.op 15 (DT.op 16 DT.nil)))))))) (DT.op 14 (DT.op 8 (DT.op 10 (DT.op 11 (DT.op 12 (DT.op 15 (DT.op 16 DT.nil)))))))))) (DT.op 14 (DT.op 8 (DT.op 9 (DT.op 10 (DT.op 11 (DT.op 12 (DT.op 15 (DT.op 16 DT.nil)))))))))) (by kernel_rfl) (by kernel_rfl) (by kernel_rfl) ?_; intro K hK) | (refine awpF_draw (id:=28) [0,1,2,3,4,5,6,7,8,9] (by kernel_rfl) (by kernel_rfl) rfl ?_; intro K hK) | refine CallK.pd (h83) ?_ | refine CallK.pg (fun _=>h83) ?_ | refine CallK.pd (h21) ?_ | refine CallK.pg (fun _=>h21) ?_); simp only [push_cast,seval,bne_self_eq_false,d1]; refine wObW ?_) | (refine hK _ ?_; clear hK K) | (refine wCd ?_ ?_) | (with_reducible intro hb; exfalso; revert hb; simp [bne_self_eq_false,d1]; done) | (with_reducible intro hb; exfalso; replace hb:=wHb hb; omega; done) | (with_reducible intro hb; replace hb:=wHb hb) | (refine wEx ?_) | (refine wRp ?_; refine fin_of (by simp only [push_cast,seval,bne_self_eq_false,d1]; first | done | rfl) ob1 ?_) | (refine inblock_norm ?_)))
  refine wRg ?_
  refine awp_virt 10 1 (by simp only [push_cast,seval]) ?_
  refine awp_seq ?_
  refine awp_seq ?_
  refine wRg ?_
  refine awp_block ?_
  refine awp_loopP (α:=Nat) (st:=fun i=>⟨[(1,.d (.sl (row.map encI))),(2,.ptr 0 0 0),(4,.ptr 1 0 0),(9,.d (.int .i64 (fr+(T.length:Int)))),(10,.ref 2 0 i),(11,.d (.int .i64 i))],[.cells [.d (.sl (f.map encNd)),.d (.int .i64 wd),.d (.int .i64 fr),.d (.sl (T.map encR)),.d (.sl (O.map encI))],.cells [.nil,.d (.int .i64 0),.d (.int .i64 0),.nil,.nil],.data 1 ((T.take i).map encR)]⟩)
    (inv:=fun i=>i≤T.length) (μ:=fun i=>T.length - i) (x0:=0) (r0:=[0,1,3]) (Nat.zero_le _) ?_ ?_
  · simp only [List.take_zero,List.map_nil]
    exact wRen
  intro i hi
  have hil:((T.take i).map encR).length=i:=by simp; omega
  have htk:List.take i ((T.take i).map encR)=(T.take i).map encR:=List.take_of_length_le (by omega)
  have hqR:∀ row,row∈((T.take i).map encR)→row.length=1:=fun row hr=>by obtain ⟨_,_,rfl⟩:=List.mem_map.1 hr; rfl
  refine awp_seq ?_
  refine awp_seq ?_
  refine wRg ?_
  refine wCd ?_ ?_
  · intro h1; replace h1:=wHb h1
    have hlt:i<T.length:=by omega
    obtain ⟨v,hv⟩ : ∃ v,T[i]? = some v:=⟨_,List.getElem?_eq_getElem hlt⟩
    have hvr2:=hrr v (List.mem_of_getElem? hv)
    refine awp_skip ?_
    refine awp_seq ?_
    refine awp_block ?_
    have hqw:∀ row,row∈v.map encI→row.length=1∧row.all D.leaf=true:=fun row hr=>by obtain ⟨_,_,rfl⟩:=List.mem_map.1 hr; exact ⟨rfl,rfl⟩
    have hvk:List.take v.length (v.map encI)=v.map encI:=List.take_of_length_le (by simp)
    refine awpF_region ?_; intro K hK; simp only [push_cast,seval,hv,encR,Int.toNat_natCast,htk,hvk]
    refine wOb ?_
    refine hK _ ?_; clear hK K
    refine inblock_norm ?_
    refine wRg ?_
    refine round_endG (i+1) [0,1,2] ⟨by omega,by omega,?_⟩
    have e:(T.take (i+1)).map encR=(T.take i).map encR++[[.sl (v.map encI)]]:=by
      rw [List.take_add_one,hv,List.map_append]
      rfl
    rw [e]
    push_cast
    exact wRen
  intro h1; replace h1:=wHb h1
  obtain rfl:i=T.length:=by omega
  rw [List.take_length] at *
  refine wEx ?_
  refine awp_seq ?_
  refine awpF_region ?_; intro K hK; simp only [push_cast,seval,htk,trw,happ]; refine wKk hK ?_; clear hK K
  refine awp_fz (.ref 2 0 (T.length+1)) ?_
  simp only [push_cast,seval,St.fz,St.frz,Blk.rowsD,List.drop_zero,tT']
  refine awp_mid (fun u=>u=⟨[(2,.ptr 0 0 0),(4,.ptr 1 0 0),(9,.d (.int .i64 (fr+(T.length:Int)))),(10,.d (.sl (T'.map encR))),(12,.ptr 2 0 0)],[.cells [.d (.sl (f.map encNd)),.d (.int .i64 wd),.d (.int .i64 fr),.d (.sl (T.map encR)),.d (.sl (O.map encI))],.cells [.nil,.d (.int .i64 0),.d (.int .i64 0),.nil,.nil],.cells [.ref 3 0 f.length,.d (.int .i64 wd),.d (.int .i64 (fr+(T.length:Int)+1)),.nil,.nil],.data 6 (f.map encNd)]⟩) ?_ ?_
  · refine awpF_drawBT [1,2,4,5,6,7] (DT.or (DT.op 0 (DT.or (DT.op 3 (DT.or (DT.op 8 (DT.op 9 (DT.op 10 DT.nil))) (DT.op 9 (DT.op 8 (DT.op 10 DT.nil))))) (DT.op 9 (DT.op 3 (DT.op 8 (DT.op 10 DT.nil)))))) (DT.op 9 (DT.op 0 (DT.op 3 (DT.op 8 (DT.op 10 DT.nil)))))) [0,3,8,9,10] [] (by kernel_rfl) (by kernel_rfl) (by kernel_rfl) ?_; intro K hK; simp only [push_cast,seval,hid,List.map_cons,List.map_nil,List.length_cons,List.length_nil,List.drop_succ_cons,List.drop_zero,List.cons_append,List.nil_append,tf]; (try simp (disch:=omega) only [wrapI]); (repeat' (first | (with_reducible refine And.intro ?_ ?_) | exact ob1 | fail))
    · refine hK _ ?_; refine mid_end [0,1,6,5] _ rfl ?_; exact wRen
    · refine hK _ ?_; refine mid_end [0,1,5,6] _ rfl ?_; exact wRen
  rintro _ rfl
  refine awp_seq ?_
  refine wRg ?_
  refine awp_virt 13 2 (by simp only [push_cast,seval]) ?_
  refine awp_seq ?_
  refine awpF_region ?_; intro K hK; simp only [push_cast,seval,tO,hA]; refine wKk hK ?_; clear hK K
  refine awp_fz (.ref 3 0 f.length) ?_
  simp only [push_cast,seval,St.fz,St.frz,Blk.rowsD,List.drop_zero,tf]
  refine awp_fz (.ref 5 0 (O.length+1)) ?_
  simp only [push_cast,seval,St.fz,St.frz,Blk.rowsD,List.drop_zero,tA]
  refine awp_seq ?_
  refine awpF_region ?_; intro K hK; simp only [push_cast,seval]
  refine wOb ?_
  refine CallK.pd (h52) ?_; refine wXo ?_
  refine hK _ ?_; clear hK K
  refine awp_seq ?_
  refine awp_seq ?_
  refine wRg ?_
  refine awp_virtJ 2 4 1 _ rfl rfl ?_
  simp only [List.set_cons_succ,List.set_cons_zero,List.cons_append,List.nil_append,List.length_cons,List.length_nil]
  refine awp_block ?_
  refine awp_loopP (α:=Nat) (st:=fun i=>⟨[(2,.ptr 0 0 0),(4,.ptr 1 0 0),(10,.d (.sl (T'.map encR))),(12,.ptr 2 0 0),(13,.ref 3 0 (sdA t T' fr A i).length),(14,.d (.sl (A.map encI))),(15,.d (.sl ((vdRow T' t).map encI))),(16,.d (.int .i64 i))],[.cells [.d (.sl (f.map encNd)),.d (.int .i64 wd),.d (.int .i64 fr),.d (.sl (T.map encR)),.d (.sl (O.map encI))],.cells [.nil,.d (.int .i64 0),.d (.int .i64 0),.nil,.nil],.cells [.d (.sl (f.map encNd)),.d (.int .i64 wd),frS (fr+(T.length:Int)+1) (stA t T' fr A i),rwS fr T' (stA t T' fr A i),.ref 4 0 (stA t T' fr A i).length],.data 2 ((sdA t T' fr A i).map encSd),.data 1 ((stA t T' fr A i).map encI)]⟩)
    (inv:=fun i=>i≤A.length) (μ:=fun i=>A.length - i) (x0:=0) (r0:=[0,1,2,4,7]) (Nat.zero_le _) ?_ ?_
  · simp only [stA_zero,sdA_zero,frS,rwS,List.map_nil,List.length_nil]
    exact wRen
  intro i hi
  refine awp_seq ?_
  refine awp_seq ?_
  refine wRg ?_
  refine wCd ?_ ?_
  · intro h3; replace h3:=wHb h3
    have hlt:i<A.length:=by omega
    obtain ⟨x,hx⟩ : ∃ x,A[i]? = some x:=⟨_,List.getElem?_eq_getElem hlt⟩
    obtain ⟨n,hxf,hnT⟩:=hAn x (List.mem_of_getElem? hx)
    have hxn:(x - fr).toNat=n:=by omega
    have hwr:IntKind.i64.wrap (x - fr)=(n:Int):=by rw [wrapI _ (by omega)]; omega
    have hs1:=stA_step (t:=t) (T:=T') (fr:=fr) hx
    have hs2:=sdA_step (t:=t) (T:=T') (fr:=fr) hx
    have hl1:=stA_len t T' fr A i
    have hl2:=sdA_len t T' fr A i
    have hv2:=vd_le t T' n
    have hvr:=vdRow_get T' t n
    rw [Nat.min_eq_left (by omega)] at hvr
    rw [hxn] at hs1 hs2
    generalize vd t T' n=v at *
    have hv1:((v:Int)==1)=decide (v=1):=by
      rcases show v=0∨v=1∨v=2 by omega with rfl | rfl | rfl <;> rfl
    have tdr:List.take (T'.length - n) (List.drop n (List.map encR T'))=List.map encR (List.drop n T'):=by
      rw [List.take_of_length_le (by simp),List.map_drop]
    generalize stA t T' fr A i=S1 at *
    generalize sdA t T' fr A i=S2 at *
    have tS2:(S2.map encSd).take S2.length=S2.map encSd:=List.take_of_length_le (by simp)
    cases S1 with
    | nil =>
      have tS:(([] : List Int).map encI).take ([] : List Int).length=([] : List Int).map encI:=List.take_of_length_le (by simp)
      simp only [frS,rwS]
      refine awp_skip ?_
      refine awp_mid (fun u=>u=⟨[(2,.ptr 0 0 0),(4,.ptr 1 0 0),(10,.d (.sl (T'.map encR))),(12,.ptr 2 0 0),(13,.ref 3 0 (sdA t T' fr A (i+1)).length),(14,.d (.sl (A.map encI))),(15,.d (.sl ((vdRow T' t).map encI))),(16,.d (.int .i64 i))],[.cells [.d (.sl (f.map encNd)),.d (.int .i64 wd),.d (.int .i64 fr),.d (.sl (T.map encR)),.d (.sl (O.map encI))],.cells [.nil,.d (.int .i64 0),.d (.int .i64 0),.nil,.nil],.cells [.d (.sl (f.map encNd)),.d (.int .i64 wd),frS (fr+(T.length:Int)+1) (stA t T' fr A (i+1)),rwS fr T' (stA t T' fr A (i+1)),.ref 4 0 (stA t T' fr A (i+1)).length],.data 2 ((sdA t T' fr A (i+1)).map encSd),.data 1 ((stA t T' fr A (i+1)).map encI)]⟩) ?_ ?_
      · refine awp_block ?_
        refine awp_seq ?_
        refine awpF_draw [0,1,2,3,4,5,6,7,8,9,10] (by kernel_rfl) (by kernel_rfl) rfl ?_; intro K hK; simp only [push_cast,seval,hx,hvr,hwr,encI,Int.toNat_natCast]
        refine wOb ?_
        refine hK _ ?_; clear hK K
        refine awp_seq ?_
        refine awp_seq ?_
        refine wRg ?_
        by_cases h4':v=2
        rotate_left
        · have d5:((v:Int) != 2)=true:=by
            rcases show v=0∨v=1 by omega with rfl | rfl <;> rfl
          rw [if_neg h4'] at hs1
          rw [if_neg h4'] at hs2
          rw [List.append_nil] at hs1
          rw [d5]
          refine wCd ?_ ?_
          · intro _
            refine awp_seq ?_
            refine awpF_region ?_; intro K hK; simp only [push_cast,seval,hx,encI,Int.toNat_natCast,tS2,hv1]; refine wKk hK ?_; clear hK K
            refine wEx ?_
            refine mid_end [0,1,2,3,4] _ rfl ?_
            rw [hs1,hs2]
            simp only [frS,rwS]
            refine ⟨by simp,by simp,by simp [push_cast,seval,encSd,encI],by simp [push_cast,seval],by simp [push_cast,seval],by simp [push_cast,seval]⟩
          · intro h; cases h
        have d5:((v:Int) != 2)=false:=by rw [h4']; rfl
        rw [if_pos h4'] at hs1
        rw [if_pos h4',List.append_nil] at hs2
        rw [d5]
        refine wCd ?_ ?_
        · intro h; cases h
        intro _
        refine awp_skip ?_
        refine awp_mid (fun u=>u=⟨[(2,.ptr 0 0 0),(4,.ptr 1 0 0),(10,.d (.sl (T'.map encR))),(12,.ptr 2 0 0),(13,.ref 3 0 S2.length),(14,.d (.sl (A.map encI))),(15,.d (.sl ((vdRow T' t).map encI))),(16,.d (.int .i64 i))],[.cells [.d (.sl (f.map encNd)),.d (.int .i64 wd),.d (.int .i64 fr),.d (.sl (T.map encR)),.d (.sl (O.map encI))],.cells [.nil,.d (.int .i64 0),.d (.int .i64 0),.nil,.nil],.cells [.d (.sl (f.map encNd)),.d (.int .i64 wd),(.d (.int .i64 x)),(.d (.sl ((T'.drop n).map encR))),.ref 4 0 ([] : List Int).length],.data 2 (S2.map encSd),.data 1 (([] : List Int).map encI)]⟩) ?_ ?_
        · refine awp_seq ?_
          refine awpF_region ?_; intro K hK; simp only [push_cast,seval,List.length_nil,Int.natCast_zero,beq_self_eq_true]; refine wKk hK ?_; clear hK K
          refine wCd ?_ ?_
          · intro _
            refine awpF_drawM [0,1,2,3,4,5,6,7,13] [] (DT.or (DT.op 8 (DT.or (DT.op 9 (DT.or (DT.op 10 (DT.or (DT.op 11 (DT.or (DT.op 12 (DT.op 14 (DT.op 15 (DT.op 16 DT.nil)))) (DT.op 14 (DT.op 12 (DT.op 15 (DT.op 16 DT.nil)))))) (DT.op 14 (DT.op 11 (DT.op 12 (DT.op 15 (DT.op 16 DT.nil))))))) (DT.op 14 (DT.op 10 (DT.op 11 (DT.op 12 (DT.op 15 (DT.op 16 DT.nil)))))))) (DT.op 14 (DT.op 9 (DT.op 10 (DT.op 11 (DT.op 12 (DT.op 15 (DT.op 16 DT.nil))))))))) (DT.or (DT.op 9 (DT.or (DT.op 8 (DT.or (DT.op 10 (DT.or (DT.op 11 (DT.or (DT.op 12 (DT.op 14 (DT.op 15 (DT.op 16 DT.nil)))) (DT.op 14 (DT.op 12 (DT.op 15 (DT.op 16 DT.nil)))))) (DT.op 14 (DT.op 11 (DT.op 12 (DT.op 15 (DT.op 16 DT.nil))))))) (DT.op 14 (DT.op 10 (DT.op 11 (DT.op 12 (DT.op 15 (DT.op 16 DT.nil)))))))) (DT.or (DT.op 10 (DT.or (DT.op 8 (DT.or (DT.op 11 (DT.or (DT.op 12 (DT.op 14 (DT.op 15 (DT.op 16 DT.nil)))) (DT.op 14 (DT.op 12 (DT.op 15 (DT.op 16 DT.nil)))))) (DT.op 14 (DT.op 11 (DT.op 12 (DT.op 15 (DT.op 16 DT.nil))))))) (DT.op 14 (DT.op 8 (DT.op 11 (DT.op 12 (DT.op 15 (DT.op 16 DT.nil)))))))) (DT.op 14 (DT.op 8 (DT.op 10 (DT.op 11 (DT.op 12 (DT.op 15 (DT.op 16 DT.nil)))))))))) (DT.op 14 (DT.op 8 (DT.op 9 (DT.op 10 (DT.op 11 (DT.op 12 (DT.op 15 (DT.op 16 DT.nil)))))))))) (by kernel_rfl) (by kernel_rfl) (by kernel_rfl) ?_; intro K hK; simp only [push_cast,seval,hx,encI,Int.toNat_natCast,hwr,tdr]
            repeat' (first
              | (with_reducible refine And.intro ?_ ?_)
              | exact ob1
              | fail)
            all_goals (refine hK _ ?_; refine mid_end [0,1,2,3,4] _ rfl ?_; exact wRen)
          · intro h; cases h
        rintro _ rfl
        refine awpF_draw [0,1,2,3,4,5,6,7,8,9] (by kernel_rfl) (by kernel_rfl) rfl ?_; intro K hK; simp only [push_cast,seval,hx,encI,Int.toNat_natCast,tS,List.map_nil,List.take_nil]
        refine wOb ?_
        refine hK _ ?_
        clear hK K
        refine inblock_norm ?_
        refine mid_end [0,1,2,3,4] _ rfl ?_
        rw [hs1,hs2]
        simp only [frS,rwS,List.nil_append,hxn]
        refine ⟨by simp,by simp,by simp [push_cast,seval,encSd,encI],by simp [push_cast,seval],by simp [push_cast,seval],by simp [push_cast,seval]⟩
      rintro _ rfl
      refine wRg ?_
      refine round_endG (i+1) [0,1,2,3,4] ⟨by omega,by omega,?_⟩
      generalize stA t T' fr A (i+1)=S3
      cases S3 <;> (simp only [frS,rwS]; push_cast; exact wRen)
    | cons y S1 =>
      have tS:((y::S1).map encI).take (y::S1).length=(y::S1).map encI:=List.take_of_length_le (by simp)
      simp only [frS,rwS]
      refine awp_skip ?_
      refine awp_mid (fun u=>u=⟨[(2,.ptr 0 0 0),(4,.ptr 1 0 0),(10,.d (.sl (T'.map encR))),(12,.ptr 2 0 0),(13,.ref 3 0 (sdA t T' fr A (i+1)).length),(14,.d (.sl (A.map encI))),(15,.d (.sl ((vdRow T' t).map encI))),(16,.d (.int .i64 i))],[.cells [.d (.sl (f.map encNd)),.d (.int .i64 wd),.d (.int .i64 fr),.d (.sl (T.map encR)),.d (.sl (O.map encI))],.cells [.nil,.d (.int .i64 0),.d (.int .i64 0),.nil,.nil],.cells [.d (.sl (f.map encNd)),.d (.int .i64 wd),frS (fr+(T.length:Int)+1) (stA t T' fr A (i+1)),rwS fr T' (stA t T' fr A (i+1)),.ref 4 0 (stA t T' fr A (i+1)).length],.data 2 ((sdA t T' fr A (i+1)).map encSd),.data 1 ((stA t T' fr A (i+1)).map encI)]⟩) ?_ ?_
      · refine awp_block ?_
        refine awp_seq ?_
        refine awpF_draw [0,1,2,3,4,5,6,7,8,9,10] (by kernel_rfl) (by kernel_rfl) rfl ?_; intro K hK; simp only [push_cast,seval,hx,hvr,hwr,encI,Int.toNat_natCast]
        refine wOb ?_
        refine hK _ ?_; clear hK K
        refine awp_seq ?_
        refine awp_seq ?_
        refine wRg ?_
        by_cases h4':v=2
        rotate_left
        · have d5:((v:Int) != 2)=true:=by
            rcases show v=0∨v=1 by omega with rfl | rfl <;> rfl
          rw [if_neg h4'] at hs1
          rw [if_neg h4'] at hs2
          rw [List.append_nil] at hs1
          rw [d5]
          refine wCd ?_ ?_
          · intro _
            refine awp_seq ?_
            refine awpF_region ?_; intro K hK; simp only [push_cast,seval,hx,encI,Int.toNat_natCast,tS2,hv1]; refine wKk hK ?_; clear hK K
            refine wEx ?_
            refine mid_end [0,1,2,3,4] _ rfl ?_
            rw [hs1,hs2]
            simp only [frS,rwS]
            refine ⟨by simp,by simp,by simp [push_cast,seval,encSd,encI],by simp [push_cast,seval],by simp [push_cast,seval],by simp [push_cast,seval]⟩
          · intro h; cases h
        have d5:((v:Int) != 2)=false:=by rw [h4']; rfl
        rw [if_pos h4'] at hs1
        rw [if_pos h4',List.append_nil] at hs2
        rw [d5]
        refine wCd ?_ ?_
        · intro h; cases h
        intro _
        refine awp_skip ?_
        have d6:(((y::S1).length:Int)==0)=false:=beq_eq_false_iff_ne.2 (by rw [List.length_cons]; omega)
        refine awp_mid (fun u=>u=⟨[(2,.ptr 0 0 0),(4,.ptr 1 0 0),(10,.d (.sl (T'.map encR))),(12,.ptr 2 0 0),(13,.ref 3 0 S2.length),(14,.d (.sl (A.map encI))),(15,.d (.sl ((vdRow T' t).map encI))),(16,.d (.int .i64 i))],[.cells [.d (.sl (f.map encNd)),.d (.int .i64 wd),.d (.int .i64 fr),.d (.sl (T.map encR)),.d (.sl (O.map encI))],.cells [.nil,.d (.int .i64 0),.d (.int .i64 0),.nil,.nil],.cells [.d (.sl (f.map encNd)),.d (.int .i64 wd),(.d (.int .i64 y)),(.d (.sl ((T'.drop (y - fr).toNat).map encR))),.ref 4 0 (y::S1).length],.data 2 (S2.map encSd),.data 1 ((y::S1).map encI)]⟩) ?_ ?_
        · refine awp_seq ?_
          refine awpF_region ?_; intro K hK; simp only [push_cast,seval]
          refine wOb ?_
          refine hK _ ?_; clear hK K
          refine wCd ?_ ?_
          · intro h
            exfalso
            revert h
            simp
            try omega
          intro _
          refine awp_skip ?_
          refine mid_end [0,1,2,3,4] _ rfl ?_
          refine ⟨by simp,by simp,by simp [push_cast,seval,encI],by simp [push_cast,seval],by simp [push_cast,seval],by simp [push_cast,seval]⟩
        rintro _ rfl
        refine awpF_draw [0,1,2,3,4,5,6,7,8,9] (by kernel_rfl) (by kernel_rfl) rfl ?_; intro K hK; simp only [push_cast,seval,hx,encI,Int.toNat_natCast,tS]
        refine wOb ?_
        refine hK _ ?_
        clear hK K
        refine inblock_norm ?_
        refine mid_end [0,1,2,3,4] _ rfl ?_
        rw [hs1,hs2]
        simp only [frS,rwS,List.cons_append]
        have tS0:List.take S1.length (S1.map encI)=S1.map encI:=List.take_of_length_le (by simp)
        refine ⟨by simp,by simp,by simp [push_cast,seval,encSd,encI,tS0],by simp [push_cast,seval],by simp [push_cast,seval],by simp [push_cast,seval]⟩
      rintro _ rfl
      refine wRg ?_
      refine round_endG (i+1) [0,1,2,3,4] ⟨by omega,by omega,?_⟩
      generalize stA t T' fr A (i+1)=S3
      cases S3 <;> (simp only [frS,rwS]; push_cast; exact wRen)
  · intro h3; replace h3:=wHb h3
    obtain rfl:i=A.length:=by omega
    refine wEx ?_
    have hmem:=fun x (h:x∈stA t T' fr A A.length)=>hAn x (stA_mem h)
    generalize stA t T' fr A A.length=S1 at *
    generalize sdA t T' fr A A.length=S2 at *
    have dS2:∀ (b0 b1 b2:Blk) (X:List Blk),DeepV (b0::b1::b2::.data 2 (S2.map encSd)::X) (.ref 3 0 S2.length) (.d (.sl (S2.map encSd))):=fun b0 b1 b2 X=>DeepV.row rfl (by simp)
    cases S1 with
    | nil =>
      simp only [frS,rwS]
      refine awp_seq ?_
      refine wRg ?_
      refine wRet ?_
      exact DeepV.tups (DeepV.cons (DeepV.aggs (DeepV.cons (.dd _) (DeepV.cons (.dd _) (DeepV.cons (.dd _) (DeepV.cons .nil (DeepV.cons (DeepV.row rfl rfl) DeepV.nils)))))) (DeepV.cons (dS2 _ _ _ _) (DeepV.cons (.dd _) DeepV.nils)))
    | cons y S1 =>
      simp only [frS,rwS]
      refine awp_seq ?_
      refine wRg ?_
      refine wRet ?_
      exact DeepV.tups (DeepV.cons (DeepV.aggs (DeepV.cons (.dd _) (DeepV.cons (.dd _) (DeepV.cons (.dd _) (DeepV.cons (.dd _) (DeepV.cons (DeepV.row rfl (by simp [pwM])) DeepV.nils)))))) (DeepV.cons (dS2 _ _ _ _) (DeepV.cons (.dd _) DeepV.nils)))
end Go.Aw
