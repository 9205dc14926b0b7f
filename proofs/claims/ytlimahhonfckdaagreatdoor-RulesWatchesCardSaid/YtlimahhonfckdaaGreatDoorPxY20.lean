/-
  Both sides' Push from one row. Conditions: a valid watch,lengths that fit.
-/
import Derived.Test.YtlimahhonfckdaaGreatDoorPxY19
import Derived.Test.YtlimahhonfckdaaGreatDoorPxY18
import Derived.Test.YtlimahhonfckdaaGreatDoorPxY4
import Derived.Test.YtlimahhonfckdaaGreatDoorPxAwAb
import Derived.Test.YtlimahhonfckdaaGreatDoorPxAwOb
import Derived.Test.YtlimahhonfckdaaGreatDoorRuB
namespace Go.Aw
set_option linter.unusedSimpArgs false
set_option linter.unusedVariables false
open Go.RowKit Go.Proofs
set_option maxRecDepth 100000

theorem q52at (w:Wt) (t:Fm) (row:List Int) (hf:w.nodes.length≤1000000) (ht:shE w.nodes w.width=0→t.wf∧w.nodes=t.flat) (hc:cwE w t=0) (hrow:row.length≤1000000) (hfr:w.fr+(w.rows.length:Int)<1099511627776)
    (k:Nat) (H:List Blk) (kp:List Nat) (hk:H[k]? = some (.data 1 (row.map encI))) :
    AC Tryz.prog 52 [.agg (wtV w),.ref k 0 row.length] H kp fun x H'=>x=.tup [.agg (wtV (puW t w row)),.d (.sl ((puS t w row).map encSd)),.d (.int .i64 (pushE t w row))]∧H'=H:=by
  have h:=(q52 w t row hf ht hc hrow hfr).atB k H kp hk rfl rfl (by rfl) (fun x H' hx=>by
    obtain ⟨rfl,rfl⟩:=hx
    exact ⟨rfl,_,rfl,rfl⟩)
  refine AC.mono (R:=fun x H'=>∃ es':Blk,(x=.tup [.agg (wtV (puW t w row)),.d (.sl ((puS t w row).map encSd)),.d (.int .i64 (pushE t w row))]∧[es']=[.data 1 (row.map encI)])∧H'=H.set k es') h ?_
  rintro x H' ⟨es,⟨rfl,he⟩,rfl⟩
  cases he
  refine ⟨rfl,?_⟩
  have hkl:=(List.getElem?_eq_some_iff.1 hk).1
  refine List.ext_getElem? fun i => ?_
  by_cases hi:i=k
  · subst hi
    rw [List.getElem?_set_self hkl,hk]
  · rw [List.getElem?_set_ne (Ne.symm hi)]
set_option maxHeartbeats 8000000 in
theorem q16 (w:Wt) (t:Fm) (row:List Int) (hf:w.nodes.length≤1000000) (ht:shE w.nodes w.width=0→t.wf∧w.nodes=t.flat) (hc:cwE w t=0) (hrow:row.length≤1000000) (hfr:w.fr+(w.rows.length:Int)<1099511627776)
    (b1:w.rows.length≤1000) (b2:∀ r,r∈w.rows→r.length≤12) (b3:w.opn.length≤1000)
    (c0:(puW t w row).nodes.length≤1000000) (c1:(puW t w row).rows.length≤1000000) (c2:∀ r,r∈(puW t w row).rows→r.length≤1000000) (c3:(puW t w row).opn.length≤1000000) (c4:(puS t w row).length≤1000000) :
    PD Tryz.prog 16 [.agg (wtD w),.agg (wtD w),.sl (row.map encI)] (.tup [.agg (wtV (puW t w row)),.agg (wtV (puW t w row)),.d (.bool true)]):=by
  have h51:=q51 w hf (by omega) (fun r h=>by have:=b2 r h; omega) (by omega)
  have h52:=q52at w t row hf ht hc hrow hfr
  have h53:=q53 w t row hf ht hc hrow hfr
  have h15:=q15 (puW t w row) c0 c1 c2 c3
  have k15:=q15 w hf (by omega) (fun r h=>by have:=b2 r h; omega) (by omega)
  have h54:=q54 (puS t w row) c4
  have h23:=p34 row row (by omega)
  rw [beq_self_eq_true] at h23
  have trw:(row.map encI).take row.length=row.map encI:=List.take_of_length_le (by simp)
  clear hc hfr b1 b2 b3 c0 c1 c2 c3 c4 hf ht
  generalize puW t w row=w2 at *
  generalize puS t w row=s2 at *
  generalize pushE t w row=e2 at *
  obtain ⟨f,wd,fr,T,O⟩:=w
  obtain ⟨f2,wd2,fr2,T2,O2⟩:=w2
  simp only [wtD,wtV,List.map_cons,List.map_nil] at *
  have hqr:∀ r,r∈row.map encI→r.length=1∧r.all D.leaf=true:=fun r h=>encI_row h
  refine pd_of (fn:=Tryz.f16) [.cell 6 31,.cell 7 31,.tmp 8] (by kernel_rfl) rfl (by kernel_rfl) (Nat.le_of_ble_eq_true rfl) (by kernel_rfl) rfl rfl ?_
  (repeat' (first | refine awp_seq ?_ | refine awp_skip ?_ | refine awp_block ?_ | ((first | ((fail_if_success refine awpF_region (id:=2) ?_); refine awpF_region ?_; intro K hK) | (refine awpF_drawM (id:=9) [0,2,3,4,5] [] (DT.or (DT.op 1 (DT.op 6 (DT.or (DT.op 7 (DT.op 8 (DT.op 9 (DT.op 10 DT.nil)))) (DT.op 8 (DT.or (DT.op 7 (DT.op 9 (DT.op 10 DT.nil))) (DT.op 9 (DT.op 7 (DT.op 10 DT.nil)))))))) (DT.op 6 (DT.or (DT.op 1 (DT.or (DT.op 7 (DT.op 8 (DT.op 9 (DT.op 10 DT.nil)))) (DT.op 8 (DT.or (DT.op 7 (DT.op 9 (DT.op 10 DT.nil))) (DT.op 9 (DT.op 7 (DT.op 10 DT.nil))))))) (DT.or (DT.op 7 (DT.or (DT.op 1 (DT.op 8 (DT.op 9 (DT.op 10 DT.nil)))) (DT.op 8 (DT.op 1 (DT.op 9 (DT.op 10 DT.nil)))))) (DT.op 8 (DT.op 1 (DT.or (DT.op 7 (DT.op 9 (DT.op 10 DT.nil))) (DT.op 9 (DT.op 7 (DT.op 10 DT.nil)))))))))) (by kernel_rfl) (by kernel_rfl) (by kernel_rfl) ?_; intro K hK) | refine CallK.pd (h51) ?_ | refine CallK.pg (fun _=>h51) ?_); simp only [push_cast,seval,trw]; refine wObW ?_) | (refine hK _ ?_; clear hK K) | (refine wCd ?_ ?_) | (with_reducible intro hb; exfalso; revert hb; simp [trw]; done) | (with_reducible intro hb; exfalso; replace hb:=wHb hb; omega; done) | (with_reducible intro hb; replace hb:=wHb hb) | (refine wEx ?_) | (refine wRp ?_; refine fin_of (by simp only [push_cast,seval,trw]; first | done | rfl) ob1 ?_) | (refine inblock_norm ?_)))
  refine awpF_regionH [2] ?_; intro K hK; simp only [push_cast,seval,List.zipIdx_cons,List.zipIdx_nil]
  refine HeapK.mk _ (h52 4 _ _ rfl) ?_
  rintro _ _ ⟨rfl,rfl⟩
  simp only [push_cast,seval]
  refine wOb ?_
  refine hK _ ?_; clear hK K
  refine awp_seq ?_
  refine awpF_region ?_; intro K hK; simp only [push_cast,seval]
  refine wOb ?_
  refine CallK.pd (h53) ?_; refine wXo ?_
  refine hK _ ?_; clear hK K
  refine awp_seq ?_
  refine awp_regionF ?_; intro K hK
  refine from_X 21 rfl rfl ?_; refine wXo ?_
  refine CallK.pd (h15) ?_; refine wXo ?_
  refine CallK.pg (fun _=>h54) ?_; refine wXo ?_
  simp only [push_cast,seval,beq_self_eq_true]
  refine CallK.pg (fun _=>k15) ?_; refine wXo ?_
  refine OpX2.strp ?_
  simp only [push_cast,seval]
  refine OpX2.grd rfl ?_
  refine OpK.toX (callRO (ds:=[.sl (row.map encI),.sl (row.map encI)]) ?_ ?_ h23 rfl ?_)
  · simp only [push_cast,seval]
  · simp only [push_cast,seval]
    exact ⟨DeepV.row rfl (by simp),DeepV.dd _,trivial⟩
  refine from_end ?_; simp only [push_cast,seval]; refine wKk hK ?_; clear hK K
  refine awp_seq ?_
  refine awp_seq ?_
  refine wRg ?_
  refine awp_block ?_
  refine awp_loopP (α:=Nat × List Int) (st:=fun x=>⟨[(6,.ptr 0 0 0),(7,.ptr 1 0 0),(10,.ref 2 0 row.length),(11,.ptr 3 0 0),(14,.ptr 4 0 0),(17,.d (.bool true)),(18,.d (.int .i64 x.1))],[.cells [.nil,.d (.int .i64 0),.d (.int .i64 0),.nil,.nil],.cells [.nil,.d (.int .i64 0),.d (.int .i64 0),.nil,.nil],.data 1 (x.2.map encI),.cells [.d (.sl (f2.map encNd)),.d (.int .i64 wd2),.d (.int .i64 fr2),.d (.sl (T2.map encR)),.d (.sl (O2.map encI))],.cells [.d (.sl (f2.map encNd)),.d (.int .i64 wd2),.d (.int .i64 fr2),.d (.sl (T2.map encR)),.d (.sl (O2.map encI))]]⟩)
    (inv:=fun x=>x.1≤row.length∧x.2.length=row.length) (μ:=fun x=>row.length - x.1) (x0:=(0,row)) (r0:=[2,3,4,6,7]) ⟨Nat.zero_le _,rfl⟩ ?_ ?_
  · exact wRen
  rintro ⟨i,l⟩ ⟨hi,hl⟩
  simp only at hi hl
  have hql:∀ r,r∈l.map encI→r.length=1∧r.all D.leaf=true:=fun r h=>encI_row h
  refine awp_seq ?_
  refine awp_seq ?_
  refine wRg ?_
  refine wCd ?_ ?_
  · intro h1; replace h1:=wHb h1
    have hlt:i<l.length:=by omega
    obtain ⟨x,hx⟩ : ∃ x,l[i]? = some x:=⟨_,List.getElem?_eq_getElem hlt⟩
    refine awp_skip ?_
    refine awp_seq ?_
    refine awp_block ?_
    refine awpF_region ?_; intro K hK; simp only [push_cast,seval,hx,encI,Int.toNat_natCast]
    refine wOb ?_
    refine hK _ ?_; clear hK K
    refine inblock_norm ?_
    refine wRg ?_
    refine round_endG (i+1,l.set i (IntKind.i64.wrap (x+1))) [0,1,2,3,4] ⟨by simp only; omega,⟨by simp only; omega,by simp [hl]⟩,?_⟩
    have e:(l.set i (IntKind.i64.wrap (x+1))).map encI=(l.map encI).set i [.int .i64 (IntKind.i64.wrap (x+1))]:=by rw [List.map_set]; rfl
    rw [e]
    push_cast
    exact wRen
  · intro h1; replace h1:=wHb h1
    refine wEx ?_
    refine awp_seq ?_
    refine awpF_drawTS [0,2,3,4,5] (DT.or (DT.op 1 (DT.op 6 (DT.or (DT.op 7 (DT.op 8 (DT.op 9 (DT.op 10 DT.nil)))) (DT.op 8 (DT.or (DT.op 7 (DT.op 9 (DT.op 10 DT.nil))) (DT.op 9 (DT.op 7 (DT.op 10 DT.nil)))))))) (DT.op 6 (DT.or (DT.op 1 (DT.or (DT.op 7 (DT.op 8 (DT.op 9 (DT.op 10 DT.nil)))) (DT.op 8 (DT.or (DT.op 7 (DT.op 9 (DT.op 10 DT.nil))) (DT.op 9 (DT.op 7 (DT.op 10 DT.nil))))))) (DT.or (DT.op 7 (DT.or (DT.op 1 (DT.op 8 (DT.op 9 (DT.op 10 DT.nil)))) (DT.op 8 (DT.op 1 (DT.op 9 (DT.op 10 DT.nil)))))) (DT.op 8 (DT.op 1 (DT.or (DT.op 7 (DT.op 9 (DT.op 10 DT.nil))) (DT.op 9 (DT.op 7 (DT.op 10 DT.nil)))))))))) (by kernel_rfl) (by kernel_rfl) (by kernel_rfl) ?_; intro K hK; simp only [push_cast,seval]
    repeat' (first
      | (with_reducible refine And.intro ?_ ?_)
      | (refine CallK.pg (fun _=>h15) ?_; simp only [push_cast,seval])
      | exact ob1
      | fail)
    all_goals (refine hK _ ?_)
    all_goals (refine wRet ?_; rfl)
end Go.Aw
