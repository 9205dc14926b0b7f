/-
  Watches on the program's side: the open positions,CheckWatch. Conditions: lengths that fit.
-/
import Derived.Test.YtlimahhonfckdaaGreatDoorPxU70
namespace Go.Aw
set_option linter.unusedSimpArgs false
set_option linter.unusedVariables false
open Go.RowKit Go.Proofs
set_option maxRecDepth 100000

def opJ (t:Fm) (T:List (List Int)) (fr:Int) (k:Nat) : List Int:=((List.range k).filter fun i=>decide (vd t T i=2)).map fun (i:Nat)=>fr+(i:Int)
theorem opJ_zero (t:Fm) (T:List (List Int)) (fr:Int) : opJ t T fr 0=[]:=rfl
theorem opJ_all (t:Fm) (T:List (List Int)) (fr:Int) : opJ t T fr T.length=openL t T fr:=rfl
theorem opJ_step (t:Fm) (T:List (List Int)) (fr:Int) (k:Nat) : opJ t T fr (k+1)=opJ t T fr k++if vd t T k=2 then [fr+(k:Int)] else []:=by
  rw [opJ,opJ,List.range_succ,List.filter_append,List.map_append]
  congr 1
  by_cases h:vd t T k=2 <;> simp [h]
theorem opJ_len (t:Fm) (T:List (List Int)) (fr:Int) (k:Nat) : (opJ t T fr k).length≤k:=by
  rw [opJ,List.length_map]
  exact Nat.le_trans (List.length_filter_le _ _) (by simp)
theorem EOK.scr2 {f:List Nd} {T:List (List Int)} {es:List (V × V)} (h:EOK f T es) (n:Nat:=2) : es.map (fun p=>(if V.has n p.1=true then jk n p.1 else p.1,if V.has n p.2=true then jk n p.2 else p.2))=es:=by
  have h1:=h.bel n
  simp only [belHeap,Bool.and_true] at h1
  have h2:=blkScr_id h1
  exact Blk.mp.inj h2
theorem p94 {f:List Nd} {P:List (Nat × Nat)} {Q:List Int} {T:List (List Int)} {t:Fm} (hjud:JudC 101 f P Q T t 0) (hT:T.length≤400) (hl:t.flat.length≤1000) (fr:Int) (hfr:0≤fr∧fr≤1099511627776) :
    PD Tryz.prog 108 [.agg [.sl (f.map encNd),.sl (P.map encP2),.sl (Q.map encH)],.sl (T.map encR),.int .i64 fr] (.d (.sl ((openL t T fr).map encI))):=by
  have h50:=p50 f P Q T
  show PD _ _ _ (ofD (.sl ((openL t T fr).map encI)))
  refine pdd_of (fn:=Tryz.f108) [.tmp 6] (by kernel_rfl) rfl (by kernel_rfl) (Nat.le_of_ble_eq_true rfl) (by kernel_rfl) rfl ?_
  refine awp_seq ?_
  refine wRg ?_
  refine awp_seq ?_
  refine wRg ?_
  refine awp_virt 7 1 (by simp only [push_cast,seval]) ?_
  refine awp_seq ?_
  refine awpF_region ?_; intro K hK; simp only [push_cast,seval]
  refine CallK.rel h50 ?_
  rintro _ _ ⟨rfl,bq,cq,rfl⟩
  unfold jdK
  simp only [push_cast,seval]
  refine wOb ?_
  refine hK _ ?_; clear hK K
  refine awp_seq ?_
  refine awp_seq ?_
  refine wRg ?_
  refine awp_block ?_
  refine awp_loopP (α:=Nat × List (V × V)) (st:=fun x=>⟨[(2,.d (.int .i64 fr)),(7,.ref 2 0 (opJ t T fr x.1).length),(8,.ptr 0 0 0),(14,.d (.int .i64 T.length)),(15,.d (.int .i64 x.1))],[.cells [.d (.sl (f.map encNd)),.d (.sl (P.map encP2)),.d (.sl (Q.map encH)),.d (.sl (T.map encR)),.map 1],.mp x.2,.data 1 ((opJ t T fr x.1).map encI)]⟩)
    (inv:=fun x=>x.1≤T.length∧EOK f T x.2) (μ:=fun x=>T.length - x.1) (x0:=(0,[])) (r0:=[5,4,1]) ⟨Nat.zero_le _,EOK.nil f T⟩ ?_ ?_
  · simp only [opJ_zero]
    exact wRen
  rintro ⟨j,es⟩ ⟨hj,he⟩
  refine awp_seq ?_
  refine wRg ?_
  refine awp_seq ?_
  refine wCd ?_ ?_
  · intro h3; replace h3:=wHb h3
    have hjl:j<T.length:=by omega
    have hk:=p51k hjud hT hl j (by omega) es he 1
    have hst:=opJ_step t T fr j
    have hln:=opJ_len t T fr j
    unfold jdK at hk
    generalize vd t T j=v at *
    generalize opJ t T fr j=O at *
    have tO:(O.map encI).take O.length=O.map encI:=List.take_of_length_le (by simp)
    refine awp_skip ?_
    refine awp_mid (fun u=>∃ es',EOK f T es'∧u=⟨[(2,.d (.int .i64 fr)),(7,.ref 2 0 (opJ t T fr (j+1)).length),(8,.ptr 0 0 0),(14,.d (.int .i64 T.length)),(15,.d (.int .i64 j))],[.cells [.d (.sl (f.map encNd)),.d (.sl (P.map encP2)),.d (.sl (Q.map encH)),.d (.sl (T.map encR)),.map 1],.mp es',.data 1 ((opJ t T fr (j+1)).map encI)]⟩) ?_ ?_
    · refine awp_block ?_
      refine awp_seq ?_
      refine wRg ?_
      refine awp_seq ?_
      refine awpF_regionH [2] ?_; intro K hK; simp only [push_cast,seval,List.zipIdx_cons,List.zipIdx_nil]
      refine HeapK.mk _ (hk _ _ rfl) ?_
      rintro _ _ ⟨rfl,es',rfl,he'⟩
      simp only [push_cast,seval,List.set_cons_succ,List.set_cons_zero]
      refine hK _ ?_; clear hK K
      refine wCd ?_ ?_
      · intro h4
        have h4':v=2:=by
          have:((v:Int)==2)=true:=h4
          simp at this
          omega
        rw [if_pos h4'] at hst
        rw [hst]
        have hsc:=he'.scr2
        refine awpF_region ?_; intro K hK; simp only [push_cast,seval,tO]; refine wKk hK ?_; clear hK K
        refine inblock_norm ?_
        refine mid_end [0,1,2] _ ⟨es',he',rfl⟩ ?_
        refine ⟨by simp,by simp,by simp [push_cast,seval,he'.ren,encI,hsc],by simp [push_cast,seval],by simp [push_cast,seval],?_⟩
        simp [push_cast,seval]
        exact he'.bel2
      · intro h4
        have h4':v≠2:=by
          rintro rfl
          cases h4
        rw [if_neg h4',List.append_nil] at hst
        rw [hst]
        refine awp_skip ?_
        refine inblock_norm ?_
        refine mid_end [0,1,2] _ ⟨es',he',rfl⟩ ?_
        refine ⟨by simp,by simp,by simp [push_cast,seval,he'.ren],by simp [push_cast,seval],by simp [push_cast,seval],?_⟩
        simp [push_cast,seval]
        exact he'.bel2
    rintro _ ⟨es',he',rfl⟩
    refine wRg ?_
    refine round_endG (j+1,es') [0,1,2] ⟨by simp only; omega,⟨by simp only; omega,he'⟩,?_⟩
    push_cast
    refine ⟨by simp,by simp,by simp [push_cast,seval,he'.ren],by simp [push_cast,seval],by simp [push_cast,seval],?_⟩
    simp [push_cast,seval]
    exact he'.bel2
  · intro h3; replace h3:=wHb h3
    simp only at h3 hj
    obtain rfl:j=T.length:=by omega
    simp only [opJ_all]
    refine wEx ?_
    refine awp_seq ?_
    refine wRg ?_
    refine wRet ?_
    have h:=Deep.data (H:=[.cells [.d (.sl (f.map encNd)),.d (.sl (P.map encP2)),.d (.sl (Q.map encH)),.d (.sl (T.map encR)),.map 1],.mp es,.data 1 ((openL t T fr).map encI)]) 2 0 (openL t T fr).length 1 ((openL t T fr).map encI) rfl (by simp)
    rw [List.drop_zero,List.take_of_length_le (by simp)] at h
    exact h
def wtD (w:Wt) : List D:=[.sl (w.nodes.map encNd),.int .i64 w.width,.int .i64 w.fr,.sl (w.rows.map encR),.sl (w.opn.map encI)]
set_option maxHeartbeats 1000000 in
theorem p70 (w:Wt) (t:Fm) (hf:w.nodes.length≤1000000) (ht:shE w.nodes w.width=0→t.wf∧w.nodes=t.flat) (hr:w.rows.length≤1000000) (ho:w.opn.length≤1000000) : PD Tryz.prog 80 [.agg (wtD w)] (.d (.int .i64 (cwE w t))):=by
  obtain ⟨f,wd,fr,T,O⟩:=w
  simp only at hf ht hr ho
  have h45:=p45 f wd t hf ht
  have h20:=p20 T wd
  have h49:=p49 fr 0 1099511627776
  have hE:cwE ⟨f,wd,fr,T,O⟩ t=if chkE f wd t≠0 then chkE f wd t else if trE T wd≠0 then trE T wd else
    if fr<0∨1099511627776<fr then 2 else if openL t T fr≠O∨(T≠[]∧O.head? ≠ some fr) then 10 else 0:=rfl
  generalize cwE ⟨f,wd,fr,T,O⟩ t=e at *
  simp only [wtD]
  by_cases hc:chkE f wd t=0
  · have hs:=chk_sh hc
    obtain ⟨t1,t2⟩:=ht hs
    obtain ⟨hf40,hno,_⟩:=sh_facts hs
    rw [if_neg (by simpa using hc)] at hE
    rw [hc] at h45
    by_cases htr:trE T wd=0
    · obtain ⟨_,_,hT4,_⟩:=tr_facts htr
      rw [if_neg (by simpa using htr)] at hE
      rw [htr] at h20
      by_cases hw:fr<0∨1099511627776<fr
      · rw [if_pos hw] at hE
        subst hE
        have hb:decide (0≤fr∧fr≤1099511627776)=false:=decide_eq_false (by omega)
        rw [hb] at h49
        refine pd_of (fn:=Tryz.f80) [.tmp 2] (by kernel_rfl) rfl (by kernel_rfl) (Nat.le_of_ble_eq_true rfl) (by kernel_rfl) rfl rfl ?_
        refine awp_seq ?_
        refine wRg ?_
        refine awp_seq ?_
        refine awpF_region ?_; intro K hK; simp only [push_cast,seval]
        refine wOb ?_
        refine CallK.rel h45 ?_
        rintro _ _ ⟨⟨a,b,Q,rfl,hok⟩,rfl⟩
        obtain ⟨rfl,P,rfl,hok2⟩:=hok rfl
        simp only [push_cast,seval]
        refine wOb ?_
        refine hK _ ?_; clear hK K
        (repeat' (first | refine awp_seq ?_ | refine awp_skip ?_ | refine awp_block ?_ | ((first | (refine awpF_region ?_; intro K hK) | (refine awpF_draw (id:=10) [0,1,2,3,4,5,6,7,8,9,10,11,12,13,14,15,16,17,18,19,20,21,22,23] (by kernel_rfl) (by kernel_rfl) rfl ?_; intro K hK) | refine CallK.pd (h20) ?_ | refine CallK.pg (fun _=>h20) ?_ | refine CallK.pd (h49) ?_ | refine CallK.pg (fun _=>h49) ?_); simp only [push_cast,seval,bne_self_eq_false]; refine wObW ?_) | (refine hK _ ?_; clear hK K) | (refine wCd ?_ ?_) | (with_reducible intro hb; exfalso; revert hb; simp [bne_self_eq_false]; done) | (with_reducible intro hb; exfalso; replace hb:=wHb hb; omega; done) | (with_reducible intro hb; replace hb:=wHb hb) | (refine wEx ?_) | (refine wRp ?_; refine fin_of (by simp only [push_cast,seval,bne_self_eq_false]; first | done | rfl) ob1 ?_) | (refine inblock_norm ?_)))
        rfl
      rw [if_neg hw] at hE
      have hb:decide (0≤fr∧fr≤1099511627776)=true:=decide_eq_true (by omega)
      rw [hb] at h49
      have h95:=p95 (openL t T fr) O (by have:=openL_len t T fr; omega) ho
      have hjd:∀ (P:List (Nat × Nat)) (Q:List Int),FmOk f P Q→JudC 101 f P Q T t 0:=fun P Q hok2 =>
        jud_all (T:=T) (by omega) hok2.1 hno (fun n hn h2=>cols_of (firstE_mem hs n hn) h2 htr) t 0 ⟨t1,by rw [List.drop_zero,Nat.zero_add,← t2,List.drop_length,List.append_nil]⟩ (hok2.2.2 t t1 t2)
      have h94:=fun (P:List (Nat × Nat)) (Q:List Int) (hok2:FmOk f P Q)=>p94 (hjd P Q hok2) hT4 (by rw [← t2]; omega) fr (by omega)
      have hOl:=openL_len t T fr
      clear hjd
      generalize openL t T fr=U at *
      have d0:T=[]→decide ((T.length:Int) > 0)=false:=fun h=>decide_eq_false (by rw [h]; simp)
      have d1:T≠[]→decide ((T.length:Int) > 0)=true:=fun h=>decide_eq_true (by have:=List.length_pos_iff.2 h; omega)
      have dz:∀ l:List Int,((l.length:Int)+1==0)=false:=fun l=>beq_eq_false_iff_ne.2 (by omega)
      cases U with
      | nil =>
        by_cases hU:([] : List Int)=O
        · subst hU
          rw [decide_eq_true rfl] at h95
          by_cases hT0:T=[]
          · rw [if_neg (by simp [hT0])] at hE
            subst hE
            have d:=d0 hT0
            refine pd_of (fn:=Tryz.f80) [.tmp 2] (by kernel_rfl) rfl (by kernel_rfl) (Nat.le_of_ble_eq_true rfl) (by kernel_rfl) rfl rfl ?_
            refine awp_seq ?_
            refine wRg ?_
            refine awp_seq ?_
            refine awpF_region ?_; intro K hK; simp only [push_cast,seval]
            refine wOb ?_
            refine CallK.rel h45 ?_
            rintro _ _ ⟨⟨a,b,Q,rfl,hok⟩,rfl⟩
            obtain ⟨rfl,P,rfl,hok2⟩:=hok rfl
            simp only [push_cast,seval]
            refine wOb ?_
            refine hK _ ?_; clear hK K
            (repeat' (first | refine awp_seq ?_ | refine awp_skip ?_ | refine awp_block ?_ | ((first | ((fail_if_success refine awpF_region (id:=9) ?_); refine awpF_region ?_; intro K hK) | (refine awpF_draw (id:=10) [0,1,2,3,4,5,6,7,8,9,10,11,12,13,14,15,16,17,18,19,20,21,22,23] (by kernel_rfl) (by kernel_rfl) rfl ?_; intro K hK) | refine CallK.pd (h20) ?_ | refine CallK.pg (fun _=>h20) ?_ | refine CallK.pd (h49) ?_ | refine CallK.pg (fun _=>h49) ?_); simp only [push_cast,seval,bne_self_eq_false]; refine wObW ?_) | (refine hK _ ?_; clear hK K) | (refine wCd ?_ ?_) | (with_reducible intro hb; exfalso; revert hb; simp [bne_self_eq_false]; done) | (with_reducible intro hb; exfalso; replace hb:=wHb hb; omega; done) | (with_reducible intro hb; replace hb:=wHb hb) | (refine wEx ?_) | (refine wRp ?_; refine fin_of (by simp only [push_cast,seval,bne_self_eq_false]; first | done | rfl) ob1 ?_) | (refine inblock_norm ?_)))
            refine awpF_region ?_; intro K hK; simp only [push_cast,seval]
            refine CallK.pd (h94 P Q hok2) ?_; refine wXo ?_
            refine hK _ ?_; clear hK K
            refine awp_seq ?_
            refine awp_seq ?_
            refine awpF_draw [0,1,2,3,4,5,6,7,8,9,10,11,12,13,14,15,16,17,18,19,20,21,22,23] (by kernel_rfl) (by kernel_rfl) rfl ?_; intro K hK; simp only [push_cast,seval,d,List.length_nil,beq_self_eq_true,List.getElem?_nil,Option.getD_none,List.getD_nil]
            refine CallK.pd (h95) ?_; refine wXo ?_
            (try simp only [push_cast,seval,d,List.length_nil,beq_self_eq_true,List.getElem?_nil,Option.getD_none,List.getD_nil])
            refine wOb ?_
            refine hK _ ?_; clear hK K
            refine wCd ?_ ?_
            · intro h; cases h
            intro _
            refine awp_skip ?_
            refine awp_seq ?_
            refine wRg ?_
            refine wRet ?_
            rfl
          · rw [if_pos (by simp [hT0])] at hE
            subst hE
            have d:=d1 hT0
            refine pd_of (fn:=Tryz.f80) [.tmp 2] (by kernel_rfl) rfl (by kernel_rfl) (Nat.le_of_ble_eq_true rfl) (by kernel_rfl) rfl rfl ?_
            refine awp_seq ?_
            refine wRg ?_
            refine awp_seq ?_
            refine awpF_region ?_; intro K hK; simp only [push_cast,seval]
            refine wOb ?_
            refine CallK.rel h45 ?_
            rintro _ _ ⟨⟨a,b,Q,rfl,hok⟩,rfl⟩
            obtain ⟨rfl,P,rfl,hok2⟩:=hok rfl
            simp only [push_cast,seval]
            refine wOb ?_
            refine hK _ ?_; clear hK K
            (repeat' (first | refine awp_seq ?_ | refine awp_skip ?_ | refine awp_block ?_ | ((first | ((fail_if_success refine awpF_region (id:=9) ?_); refine awpF_region ?_; intro K hK) | (refine awpF_draw (id:=10) [0,1,2,3,4,5,6,7,8,9,10,11,12,13,14,15,16,17,18,19,20,21,22,23] (by kernel_rfl) (by kernel_rfl) rfl ?_; intro K hK) | refine CallK.pd (h20) ?_ | refine CallK.pg (fun _=>h20) ?_ | refine CallK.pd (h49) ?_ | refine CallK.pg (fun _=>h49) ?_); simp only [push_cast,seval,bne_self_eq_false]; refine wObW ?_) | (refine hK _ ?_; clear hK K) | (refine wCd ?_ ?_) | (with_reducible intro hb; exfalso; revert hb; simp [bne_self_eq_false]; done) | (with_reducible intro hb; exfalso; replace hb:=wHb hb; omega; done) | (with_reducible intro hb; replace hb:=wHb hb) | (refine wEx ?_) | (refine wRp ?_; refine fin_of (by simp only [push_cast,seval,bne_self_eq_false]; first | done | rfl) ob1 ?_) | (refine inblock_norm ?_)))
            refine awpF_region ?_; intro K hK; simp only [push_cast,seval]
            refine CallK.pd (h94 P Q hok2) ?_; refine wXo ?_
            refine hK _ ?_; clear hK K
            refine awp_seq ?_
            refine awp_seq ?_
            refine awpF_draw [0,1,2,3,4,5,6,7,8,9,10,11,12,13,14,15,16,17,18,19,20,21,22,23] (by kernel_rfl) (by kernel_rfl) rfl ?_; intro K hK; simp only [push_cast,seval,d,List.length_nil,beq_self_eq_true,List.getElem?_nil,Option.getD_none,List.getD_nil]
            refine CallK.pd (h95) ?_; refine wXo ?_
            (try simp only [push_cast,seval,d,List.length_nil,beq_self_eq_true,List.getElem?_nil,Option.getD_none,List.getD_nil])
            refine wOb ?_
            refine hK _ ?_; clear hK K
            refine wCd ?_ ?_
            · intro _
              refine awp_seq ?_
              refine wRg ?_
              refine wRet ?_
              rfl
            · intro h; cases h
        · rw [if_pos (.inl hU)] at hE
          subst hE
          rw [decide_eq_false hU] at h95
          refine pd_of (fn:=Tryz.f80) [.tmp 2] (by kernel_rfl) rfl (by kernel_rfl) (Nat.le_of_ble_eq_true rfl) (by kernel_rfl) rfl rfl ?_
          refine awp_seq ?_
          refine wRg ?_
          refine awp_seq ?_
          refine awpF_region ?_; intro K hK; simp only [push_cast,seval]
          refine wOb ?_
          refine CallK.rel h45 ?_
          rintro _ _ ⟨⟨a,b,Q,rfl,hok⟩,rfl⟩
          obtain ⟨rfl,P,rfl,hok2⟩:=hok rfl
          simp only [push_cast,seval]
          refine wOb ?_
          refine hK _ ?_; clear hK K
          (repeat' (first | refine awp_seq ?_ | refine awp_skip ?_ | refine awp_block ?_ | ((first | ((fail_if_success refine awpF_region (id:=9) ?_); refine awpF_region ?_; intro K hK) | (refine awpF_draw (id:=10) [0,1,2,3,4,5,6,7,8,9,10,11,12,13,14,15,16,17,18,19,20,21,22,23] (by kernel_rfl) (by kernel_rfl) rfl ?_; intro K hK) | refine CallK.pd (h20) ?_ | refine CallK.pg (fun _=>h20) ?_ | refine CallK.pd (h49) ?_ | refine CallK.pg (fun _=>h49) ?_); simp only [push_cast,seval,bne_self_eq_false]; refine wObW ?_) | (refine hK _ ?_; clear hK K) | (refine wCd ?_ ?_) | (with_reducible intro hb; exfalso; revert hb; simp [bne_self_eq_false]; done) | (with_reducible intro hb; exfalso; replace hb:=wHb hb; omega; done) | (with_reducible intro hb; replace hb:=wHb hb) | (refine wEx ?_) | (refine wRp ?_; refine fin_of (by simp only [push_cast,seval,bne_self_eq_false]; first | done | rfl) ob1 ?_) | (refine inblock_norm ?_)))
          refine awpF_region ?_; intro K hK; simp only [push_cast,seval]
          refine CallK.pd (h94 P Q hok2) ?_; refine wXo ?_
          refine hK _ ?_; clear hK K
          refine awp_seq ?_
          refine awp_seq ?_
          refine awpF_draw [0,1,2,3,4,5,6,7,8,9,10,11,12,13,14,15,16,17,18,19,20,21,22,23] (by kernel_rfl) (by kernel_rfl) rfl ?_; intro K hK; simp only [push_cast,seval,List.length_nil,beq_self_eq_true,List.getElem?_nil,Option.getD_none,List.getD_nil]
          refine CallK.pd (h95) ?_; refine wXo ?_
          (try simp only [push_cast,seval,List.length_nil,beq_self_eq_true,List.getElem?_nil,Option.getD_none,List.getD_nil])
          refine wOb ?_
          refine hK _ ?_; clear hK K
          refine wCd ?_ ?_
          · intro _
            refine awp_seq ?_
            refine wRg ?_
            refine wRet ?_
            rfl
          · intro h; cases h
      | cons x U =>
        have hqr:∀ row:List D,row=[.int .i64 x]∨row∈U.map encI→row.length=1:=by
          rintro row (rfl | h)
          · rfl
          · exact (encI_row h).1
        by_cases hU:x::U=O
        · subst hU
          rw [decide_eq_true rfl] at h95
          by_cases hT0:T=[]
          · rw [if_neg (by simp [hT0])] at hE
            subst hE
            have d:=d0 hT0
            refine pd_of (fn:=Tryz.f80) [.tmp 2] (by kernel_rfl) rfl (by kernel_rfl) (Nat.le_of_ble_eq_true rfl) (by kernel_rfl) rfl rfl ?_
            refine awp_seq ?_
            refine wRg ?_
            refine awp_seq ?_
            refine awpF_region ?_; intro K hK; simp only [push_cast,seval]
            refine wOb ?_
            refine CallK.rel h45 ?_
            rintro _ _ ⟨⟨a,b,Q,rfl,hok⟩,rfl⟩
            obtain ⟨rfl,P,rfl,hok2⟩:=hok rfl
            simp only [push_cast,seval]
            refine wOb ?_
            refine hK _ ?_; clear hK K
            (repeat' (first | refine awp_seq ?_ | refine awp_skip ?_ | refine awp_block ?_ | ((first | ((fail_if_success refine awpF_region (id:=9) ?_); refine awpF_region ?_; intro K hK) | (refine awpF_draw (id:=10) [0,1,2,3,4,5,6,7,8,9,10,11,12,13,14,15,16,17,18,19,20,21,22,23] (by kernel_rfl) (by kernel_rfl) rfl ?_; intro K hK) | refine CallK.pd (h20) ?_ | refine CallK.pg (fun _=>h20) ?_ | refine CallK.pd (h49) ?_ | refine CallK.pg (fun _=>h49) ?_); simp only [push_cast,seval,bne_self_eq_false]; refine wObW ?_) | (refine hK _ ?_; clear hK K) | (refine wCd ?_ ?_) | (with_reducible intro hb; exfalso; revert hb; simp [bne_self_eq_false]; done) | (with_reducible intro hb; exfalso; replace hb:=wHb hb; omega; done) | (with_reducible intro hb; replace hb:=wHb hb) | (refine wEx ?_) | (refine wRp ?_; refine fin_of (by simp only [push_cast,seval,bne_self_eq_false]; first | done | rfl) ob1 ?_) | (refine inblock_norm ?_)))
            refine awpF_region ?_; intro K hK; simp only [push_cast,seval]
            refine CallK.pd (h94 P Q hok2) ?_; refine wXo ?_
            refine hK _ ?_; clear hK K
            refine awp_seq ?_
            refine awp_seq ?_
            refine awpF_draw [0,1,2,3,4,5,6,7,8,9,10,11,12,13,14,15,16,17,18,19,20,21,22,23] (by kernel_rfl) (by kernel_rfl) rfl ?_; intro K hK; simp only [push_cast,seval,d,List.length_cons,dz,encI,List.getElem?_cons_zero,Option.getD_some,List.getD_cons_zero]
            refine CallK.pd (h95) ?_; refine wXo ?_
            (try simp only [push_cast,seval,d,List.length_cons,dz,encI,List.getElem?_cons_zero,Option.getD_some,List.getD_cons_zero])
            refine wOb ?_
            refine hK _ ?_; clear hK K
            refine wCd ?_ ?_
            · intro h; cases h
            intro _
            refine awp_skip ?_
            refine awp_seq ?_
            refine wRg ?_
            refine wRet ?_
            rfl
          · have d:=d1 hT0
            by_cases hx:x=fr
            · subst hx
              rw [if_neg (by simp)] at hE
              subst hE
              refine pd_of (fn:=Tryz.f80) [.tmp 2] (by kernel_rfl) rfl (by kernel_rfl) (Nat.le_of_ble_eq_true rfl) (by kernel_rfl) rfl rfl ?_
              refine awp_seq ?_
              refine wRg ?_
              refine awp_seq ?_
              refine awpF_region ?_; intro K hK; simp only [push_cast,seval]
              refine wOb ?_
              refine CallK.rel h45 ?_
              rintro _ _ ⟨⟨a,b,Q,rfl,hok⟩,rfl⟩
              obtain ⟨rfl,P,rfl,hok2⟩:=hok rfl
              simp only [push_cast,seval]
              refine wOb ?_
              refine hK _ ?_; clear hK K
              (repeat' (first | refine awp_seq ?_ | refine awp_skip ?_ | refine awp_block ?_ | ((first | ((fail_if_success refine awpF_region (id:=9) ?_); refine awpF_region ?_; intro K hK) | (refine awpF_draw (id:=10) [0,1,2,3,4,5,6,7,8,9,10,11,12,13,14,15,16,17,18,19,20,21,22,23] (by kernel_rfl) (by kernel_rfl) rfl ?_; intro K hK) | refine CallK.pd (h20) ?_ | refine CallK.pg (fun _=>h20) ?_ | refine CallK.pd (h49) ?_ | refine CallK.pg (fun _=>h49) ?_); simp only [push_cast,seval,bne_self_eq_false]; refine wObW ?_) | (refine hK _ ?_; clear hK K) | (refine wCd ?_ ?_) | (with_reducible intro hb; exfalso; revert hb; simp [bne_self_eq_false]; done) | (with_reducible intro hb; exfalso; replace hb:=wHb hb; omega; done) | (with_reducible intro hb; replace hb:=wHb hb) | (refine wEx ?_) | (refine wRp ?_; refine fin_of (by simp only [push_cast,seval,bne_self_eq_false]; first | done | rfl) ob1 ?_) | (refine inblock_norm ?_)))
              refine awpF_region ?_; intro K hK; simp only [push_cast,seval]
              refine CallK.pd (h94 P Q hok2) ?_; refine wXo ?_
              refine hK _ ?_; clear hK K
              refine awp_seq ?_
              refine awp_seq ?_
              refine awpF_draw [0,1,2,3,4,5,6,7,8,9,10,11,12,13,14,15,16,17,18,19,20,21,22,23] (by kernel_rfl) (by kernel_rfl) rfl ?_; intro K hK; simp only [push_cast,seval,d,List.length_cons,dz,encI,List.getElem?_cons_zero,Option.getD_some,List.getD_cons_zero,bne_self_eq_false]
              refine CallK.pd (h95) ?_; refine wXo ?_
              (try simp only [push_cast,seval,d,List.length_cons,dz,encI,List.getElem?_cons_zero,Option.getD_some,List.getD_cons_zero,bne_self_eq_false])
              refine wOb ?_
              refine hK _ ?_; clear hK K
              refine wCd ?_ ?_
              · intro h; cases h
              intro _
              refine awp_skip ?_
              refine awp_seq ?_
              refine wRg ?_
              refine wRet ?_
              rfl
            · rw [if_pos (by simp [hT0,hx])] at hE
              subst hE
              have dx:(x != fr)=true:=by simpa using hx
              refine pd_of (fn:=Tryz.f80) [.tmp 2] (by kernel_rfl) rfl (by kernel_rfl) (Nat.le_of_ble_eq_true rfl) (by kernel_rfl) rfl rfl ?_
              refine awp_seq ?_
              refine wRg ?_
              refine awp_seq ?_
              refine awpF_region ?_; intro K hK; simp only [push_cast,seval]
              refine wOb ?_
              refine CallK.rel h45 ?_
              rintro _ _ ⟨⟨a,b,Q,rfl,hok⟩,rfl⟩
              obtain ⟨rfl,P,rfl,hok2⟩:=hok rfl
              simp only [push_cast,seval]
              refine wOb ?_
              refine hK _ ?_; clear hK K
              (repeat' (first | refine awp_seq ?_ | refine awp_skip ?_ | refine awp_block ?_ | ((first | ((fail_if_success refine awpF_region (id:=9) ?_); refine awpF_region ?_; intro K hK) | (refine awpF_draw (id:=10) [0,1,2,3,4,5,6,7,8,9,10,11,12,13,14,15,16,17,18,19,20,21,22,23] (by kernel_rfl) (by kernel_rfl) rfl ?_; intro K hK) | refine CallK.pd (h20) ?_ | refine CallK.pg (fun _=>h20) ?_ | refine CallK.pd (h49) ?_ | refine CallK.pg (fun _=>h49) ?_); simp only [push_cast,seval,bne_self_eq_false]; refine wObW ?_) | (refine hK _ ?_; clear hK K) | (refine wCd ?_ ?_) | (with_reducible intro hb; exfalso; revert hb; simp [bne_self_eq_false]; done) | (with_reducible intro hb; exfalso; replace hb:=wHb hb; omega; done) | (with_reducible intro hb; replace hb:=wHb hb) | (refine wEx ?_) | (refine wRp ?_; refine fin_of (by simp only [push_cast,seval,bne_self_eq_false]; first | done | rfl) ob1 ?_) | (refine inblock_norm ?_)))
              refine awpF_region ?_; intro K hK; simp only [push_cast,seval]
              refine CallK.pd (h94 P Q hok2) ?_; refine wXo ?_
              refine hK _ ?_; clear hK K
              refine awp_seq ?_
              refine awp_seq ?_
              refine awpF_draw [0,1,2,3,4,5,6,7,8,9,10,11,12,13,14,15,16,17,18,19,20,21,22,23] (by kernel_rfl) (by kernel_rfl) rfl ?_; intro K hK; simp only [push_cast,seval,d,List.length_cons,dz,encI,List.getElem?_cons_zero,Option.getD_some,List.getD_cons_zero,dx]
              refine CallK.pd (h95) ?_; refine wXo ?_
              (try simp only [push_cast,seval,d,List.length_cons,dz,encI,List.getElem?_cons_zero,Option.getD_some,List.getD_cons_zero,dx])
              refine wOb ?_
              refine hK _ ?_; clear hK K
              refine wCd ?_ ?_
              · intro _
                refine awp_seq ?_
                refine wRg ?_
                refine wRet ?_
                rfl
              · intro h; cases h
        · rw [if_pos (.inl hU)] at hE
          subst hE
          rw [decide_eq_false hU] at h95
          refine pd_of (fn:=Tryz.f80) [.tmp 2] (by kernel_rfl) rfl (by kernel_rfl) (Nat.le_of_ble_eq_true rfl) (by kernel_rfl) rfl rfl ?_
          refine awp_seq ?_
          refine wRg ?_
          refine awp_seq ?_
          refine awpF_region ?_; intro K hK; simp only [push_cast,seval]
          refine wOb ?_
          refine CallK.rel h45 ?_
          rintro _ _ ⟨⟨a,b,Q,rfl,hok⟩,rfl⟩
          obtain ⟨rfl,P,rfl,hok2⟩:=hok rfl
          simp only [push_cast,seval]
          refine wOb ?_
          refine hK _ ?_; clear hK K
          (repeat' (first | refine awp_seq ?_ | refine awp_skip ?_ | refine awp_block ?_ | ((first | ((fail_if_success refine awpF_region (id:=9) ?_); refine awpF_region ?_; intro K hK) | (refine awpF_draw (id:=10) [0,1,2,3,4,5,6,7,8,9,10,11,12,13,14,15,16,17,18,19,20,21,22,23] (by kernel_rfl) (by kernel_rfl) rfl ?_; intro K hK) | refine CallK.pd (h20) ?_ | refine CallK.pg (fun _=>h20) ?_ | refine CallK.pd (h49) ?_ | refine CallK.pg (fun _=>h49) ?_); simp only [push_cast,seval,bne_self_eq_false]; refine wObW ?_) | (refine hK _ ?_; clear hK K) | (refine wCd ?_ ?_) | (with_reducible intro hb; exfalso; revert hb; simp [bne_self_eq_false]; done) | (with_reducible intro hb; exfalso; replace hb:=wHb hb; omega; done) | (with_reducible intro hb; replace hb:=wHb hb) | (refine wEx ?_) | (refine wRp ?_; refine fin_of (by simp only [push_cast,seval,bne_self_eq_false]; first | done | rfl) ob1 ?_) | (refine inblock_norm ?_)))
          refine awpF_region ?_; intro K hK; simp only [push_cast,seval]
          refine CallK.pd (h94 P Q hok2) ?_; refine wXo ?_
          refine hK _ ?_; clear hK K
          refine awp_seq ?_
          refine awp_seq ?_
          refine awpF_draw [0,1,2,3,4,5,6,7,8,9,10,11,12,13,14,15,16,17,18,19,20,21,22,23] (by kernel_rfl) (by kernel_rfl) rfl ?_; intro K hK; simp only [push_cast,seval,List.length_cons,dz,encI,List.getElem?_cons_zero,Option.getD_some,List.getD_cons_zero]
          refine CallK.pd (h95) ?_; refine wXo ?_
          (try simp only [push_cast,seval,List.length_cons,dz,encI,List.getElem?_cons_zero,Option.getD_some,List.getD_cons_zero])
          refine wOb ?_
          refine hK _ ?_; clear hK K
          refine wCd ?_ ?_
          · intro _
            refine awp_seq ?_
            refine wRg ?_
            refine wRet ?_
            rfl
          · intro h; cases h
    · rw [if_pos htr] at hE
      subst hE
      have hb1:(trE T wd != 0)=true:=by simpa using htr
      generalize trE T wd=e at *
      refine pd_of (fn:=Tryz.f80) [.tmp 2] (by kernel_rfl) rfl (by kernel_rfl) (Nat.le_of_ble_eq_true rfl) (by kernel_rfl) rfl rfl ?_
      refine awp_seq ?_
      refine wRg ?_
      refine awp_seq ?_
      refine awpF_region ?_; intro K hK; simp only [push_cast,seval]
      refine wOb ?_
      refine CallK.rel h45 ?_
      rintro _ _ ⟨⟨a,b,Q,rfl,hok⟩,rfl⟩
      obtain ⟨rfl,P,rfl,hok2⟩:=hok rfl
      simp only [push_cast,seval]
      refine wOb ?_
      refine hK _ ?_; clear hK K
      (repeat' (first | refine awp_seq ?_ | refine awp_skip ?_ | refine awp_block ?_ | ((first | (refine awpF_region ?_; intro K hK) | (refine awpF_draw (id:=10) [0,1,2,3,4,5,6,7,8,9,10,11,12,13,14,15,16,17,18,19,20,21,22,23] (by kernel_rfl) (by kernel_rfl) rfl ?_; intro K hK) | refine CallK.pd (h20) ?_ | refine CallK.pg (fun _=>h20) ?_); simp only [push_cast,seval,bne_self_eq_false,hb1]; refine wObW ?_) | (refine hK _ ?_; clear hK K) | (refine wCd ?_ ?_) | (with_reducible intro hb; exfalso; revert hb; simp [bne_self_eq_false,hb1]; done) | (with_reducible intro hb; exfalso; replace hb:=wHb hb; omega; done) | (with_reducible intro hb; replace hb:=wHb hb) | (refine wEx ?_) | (refine wRp ?_; refine fin_of (by simp only [push_cast,seval,bne_self_eq_false,hb1]; first | done | rfl) ob1 ?_) | (refine inblock_norm ?_)))
      rfl
  · rw [if_pos hc] at hE
    subst hE
    have hb1:(chkE f wd t != 0)=true:=by simpa using hc
    generalize chkE f wd t=e at *
    refine pd_of (fn:=Tryz.f80) [.tmp 2] (by kernel_rfl) rfl (by kernel_rfl) (Nat.le_of_ble_eq_true rfl) (by kernel_rfl) rfl rfl ?_
    refine awp_seq ?_
    refine wRg ?_
    refine awp_seq ?_
    refine awpF_region ?_; intro K hK; simp only [push_cast,seval]
    refine wOb ?_
    refine CallK.rel h45 ?_
    rintro _ _ ⟨⟨a,b,Q,rfl,hok⟩,rfl⟩
    simp only [push_cast,seval]
    refine wOb ?_
    refine hK _ ?_; clear hK K
    (repeat' (first | refine awp_seq ?_ | refine awp_skip ?_ | refine awp_block ?_ | ((first | (refine awpF_region ?_; intro K hK) | (refine awpF_draw (id:=10) [0,1,2,3,4,5,6,7,8,9,10,11,12,13,14,15,16,17,18,19,20,21,22,23] (by kernel_rfl) (by kernel_rfl) rfl ?_; intro K hK)); simp only [push_cast,seval,hb1]; refine wObW ?_) | (refine hK _ ?_; clear hK K) | (refine wCd ?_ ?_) | (with_reducible intro hb; exfalso; revert hb; simp [hb1]; done) | (with_reducible intro hb; exfalso; replace hb:=wHb hb; omega; done) | (with_reducible intro hb; replace hb:=wHb hb) | (refine wEx ?_) | (refine wRp ?_; refine fin_of (by simp only [push_cast,seval,hb1]; first | done | rfl) ob1 ?_) | (refine inblock_norm ?_)))
    rfl
end Go.Aw
