/-
  Return of the program: when a rule was lost,and by whom. Conditions: lengths that fit.
-/
import Derived.Test.YtlimahhonfckdaaGreatDoorPxY8
namespace Go.Aw
set_option linter.unusedSimpArgs false
set_option linter.unusedVariables false
open Go.RowKit Go.Proofs
set_option maxRecDepth 100000

theorem take_snoc {T:List (List Int)} {n:Nat} (h:n<T.length) : T.take (n+1)=T.take n++[T[n]?.getD []]:=by
  rw [List.take_add_one,List.getElem?_eq_getElem h]
  rfl
set_option maxHeartbeats 2000000 in
theorem q29 (f:List Nd) (p:List Ch) (t:Fm) (T:List (List Int)) (hf:f.length≤1000000) (hpl:p.length≤1000000) (hTl:T.length≤1000000) (ht:shE f p.length=0→t.wf∧f=t.flat) :
    PD Tryz.prog 29 [.sl (f.map encNd),.sl (p.map encCh),.sl (T.map encR)] (.tup [.agg [.d (.int .i64 (reAt f p t T)),.d (.sl ((reWho f p t T).map encI))],.d (.bool (reL f p t T)),.d (.int .i64 (reE f p t T))]):=by
  have h62:=q62 f p t T hf hpl hTl ht
  by_cases he:reE f p t T=0
  · obtain ⟨hp,hc,htr,hT,_,_⟩:=re_facts he
    obtain ⟨t1,t2⟩:=ht (chk_sh hc)
    obtain ⟨hf40,hno,_⟩:=sh_facts (chk_sh hc)
    have hno2:∀ n,n∈t.flat→okN n:=fun n h=>hno n (by rw [t2]; exact h)
    obtain ⟨_,_,hT4,hrows⟩:=tr_facts htr
    have hsub:∀ n,trE (T.take n) p.length=0:=fun n=>tr_of (by omega) (by rw [List.length_take]; omega) fun r hr=>hrows r (List.mem_of_mem_take hr)
    have h63:=fun (P:List (Nat × Nat)) (Q:List Int) (hok2:FmOk f P Q)=>pos_all (by omega) t1 t2 hok2 (firstE_mem (chk_sh hc)) hp (chk_hz hc) _ T (Nat.le_refl _) hT htr
    have hTl1:=List.length_pos_iff.2 hT
    have h63n:=fun (P:List (Nat × Nat)) (Q:List Int) (hok2:FmOk f P Q) (n:Nat)=>pos_all (by omega) t1 t2 hok2 (firstE_mem (chk_sh hc)) hp (chk_hz hc) _ (T.take (n+1)) (Nat.le_refl _) (fun e=>by
      have:=congrArg List.length e
      rw [List.length_take,List.length_nil] at this
      omega) (hsub (n+1))
    rw [he]
    rw [he] at h62
    cases hpos:posA t p T with
    | true =>
      have e1:reL f p t T=false:=by rw [reL,hpos,Bool.not_true,Bool.and_false]
      have e2:reAt f p t T=0:=by rw [reAt,e1]; rfl
      have e3:reWho f p t T=[]:=by rw [reWho,e1]; rfl
      rw [e1,e2,e3]
      rw [hpos] at h63
      refine pdv_of (fn:=Tryz.f29) [.cell 6 56,.tmp 7,.tmp 8] (by kernel_rfl) rfl (by kernel_rfl) (Nat.le_of_ble_eq_true rfl) (by kernel_rfl) rfl ?_
      refine awp_seq ?_
      refine wRg ?_
      refine awp_seq ?_
      refine awpF_region ?_; intro K hK; simp only [push_cast,seval]
      refine wOb ?_
      refine CallK.rel h62 ?_
      rintro _ _ ⟨⟨a',b',Q,rfl,hok⟩,rfl⟩
      obtain ⟨rfl,P,rfl,hok2⟩:=hok rfl
      have k63:=h63 P Q hok2
      simp only [push_cast,seval]
      refine wOb ?_
      refine hK _ ?_; clear hK K
      (repeat' (first | refine awp_seq ?_ | refine awp_skip ?_ | refine awp_block ?_ | ((first | (refine awpF_region ?_; intro K hK) | (refine awpF_draw (id:=5) [0,1,2,3,4,5,6] (by kernel_rfl) (by kernel_rfl) rfl ?_; intro K hK) | (refine awpF_draw (id:=11) [0,1,2,3,4,5,6,7] (by kernel_rfl) (by kernel_rfl) rfl ?_; intro K hK) | refine CallK.pd (k63) ?_ | refine CallK.pg (fun _=>k63) ?_); simp only [push_cast,seval,bne_self_eq_false]; refine wObW ?_) | (refine hK _ ?_; clear hK K) | (refine wCd ?_ ?_) | (with_reducible intro hb; exfalso; revert hb; simp [bne_self_eq_false]; done) | (with_reducible intro hb; exfalso; replace hb:=wHb hb; omega; done) | (with_reducible intro hb; replace hb:=wHb hb) | (refine wEx ?_) | (refine wRp ?_; refine fin_of (by simp only [push_cast,seval,bne_self_eq_false]; first | done | rfl) ob1 ?_) | (refine inblock_norm ?_)))
      exact DeepV.tups (DeepV.cons (DeepV.aggs (DeepV.cons (.dd _) (DeepV.cons .nil DeepV.nils))) (DeepV.cons (.dd _) (DeepV.cons (.dd _) DeepV.nils)))
    | false =>
      have e1:reL f p t T=true:=by rw [reL,hpos,decide_eq_true he]; rfl
      have e2:reAt f p t T=(lostA t p T:Nat):=by rw [reAt,if_pos e1]
      have e3:reWho f p t T=whoL t p T (lostA t p T) 4:=by rw [reWho,if_pos e1]
      have hlast:posA t p (T.take T.length)=false:=by rw [List.take_length]; exact hpos
      rw [e1,e2,e3]
      rw [hpos] at h63
      have h66:=fun (P:List (Nat × Nat)) (Q:List Int) (hok2:FmOk f P Q) (n:Nat) (hn0:n≠0) (hn:n<T.length) (o:Int)=>q66 (by omega) t1 t2 hok2 (firstE_mem (chk_sh hc)) hp (chk_hz hc) (T.take n) (T[n]?.getD []) o (fun e=>by
        have:=congrArg List.length e
        rw [List.length_take,List.length_nil] at this
        omega) (by rw [List.length_take]; omega) (by rw [← take_snoc hn]; exact hsub _)
      have hat:=fun (n:Nat)=>lost_at (t:=t) (p:=p) (T:=T) (n:=n)
      have hw0:=fun (n:Nat)=>whoL_zero t p T n
      have hwst:=fun (n k:Nat) (h:n≠0)=>whoL_step (t:=t) (p:=p) (T:=T) h k
      have hwl:=fun (n k:Nat)=>whoL_len t p T n k
      have hw00:∀ k,whoL t p T 0 k=[]:=fun k=>by rw [whoL,if_pos rfl]
      refine pdv_of (fn:=Tryz.f29) [.cell 6 56,.tmp 7,.tmp 8] (by kernel_rfl) rfl (by kernel_rfl) (Nat.le_of_ble_eq_true rfl) (by kernel_rfl) rfl ?_
      refine awp_seq ?_
      refine wRg ?_
      refine awp_seq ?_
      refine awpF_region ?_; intro K hK; simp only [push_cast,seval]
      refine wOb ?_
      refine CallK.rel h62 ?_
      rintro _ _ ⟨⟨a',b',Q,rfl,hok⟩,rfl⟩
      obtain ⟨rfl,P,rfl,hok2⟩:=hok rfl
      have k63:=h63 P Q hok2
      have l63:=h63n P Q hok2
      have k66:=h66 P Q hok2
      clear h63 h63n h66
      simp only [push_cast,seval]
      refine wOb ?_
      refine hK _ ?_; clear hK K
      (repeat' (first | refine awp_seq ?_ | refine awp_skip ?_ | refine awp_block ?_ | ((first | ((fail_if_success refine awpF_region (id:=4) ?_); refine awpF_region ?_; intro K hK) | (refine awpF_draw (id:=5) [0,1,2,3,4,5,6] (by kernel_rfl) (by kernel_rfl) rfl ?_; intro K hK) | (refine awpF_draw (id:=11) [0,1,2,3,4,5,6,7] (by kernel_rfl) (by kernel_rfl) rfl ?_; intro K hK) | refine CallK.pd (k63) ?_ | refine CallK.pg (fun _=>k63) ?_); simp only [push_cast,seval,bne_self_eq_false]; refine wObW ?_) | (refine hK _ ?_; clear hK K) | (refine wCd ?_ ?_) | (with_reducible intro hb; exfalso; revert hb; simp [bne_self_eq_false]; done) | (with_reducible intro hb; exfalso; replace hb:=wHb hb; omega; done) | (with_reducible intro hb; replace hb:=wHb hb) | (refine wEx ?_) | (refine wRp ?_; refine fin_of (by simp only [push_cast,seval,bne_self_eq_false]; first | done | rfl) ob1 ?_) | (refine inblock_norm ?_)))
      refine wRg ?_
      refine awp_seq ?_
      refine awp_block ?_
      refine awp_loopP (α:=Nat) (st:=fun n=>⟨[(1,.d (.sl (p.map encCh))),(2,.d (.sl (T.map encR))),(6,.ptr 0 0 0),(9,.ptr 1 0 0),(11,.d (.int .i64 n))],[.cells [.d (.int .i64 0),.nil],.cells [.d (.sl (f.map encNd)),.d (.sl (P.map encP2)),.d (.sl (Q.map encH))]]⟩)
        (inv:=fun n=>n<T.length∧∀ i,i<n→posA t p (T.take (i+1))=true) (μ:=fun n=>T.length - n) (x0:=0) (r0:=[0,1]) ⟨hTl1,fun i hi=>absurd hi (Nat.not_lt_zero i)⟩ ?_ ?_
      · exact wRen
      rintro n ⟨hn,hall⟩
      have k63n:=l63 n
      have tk:((T.map encR).take (n+1))=(T.take (n+1)).map encR:=(List.map_take).symm
      have wn1:IntKind.i64.wrap ((n:Int)+1)=(n:Int)+1:=wrapI _ (by omega)
      have tn1:((n:Int)+1).toNat=n+1:=by omega
      refine awp_seq ?_
      refine awp_seq ?_
      refine awpF_draw [0,1,2,3,4,5,6] (by kernel_rfl) (by kernel_rfl) rfl ?_; intro K hK; simp only [push_cast,seval,List.drop_zero,Int.toNat_zero,Nat.sub_zero,wn1,tn1,tk,Int.toNat_natCast]
      refine wOb ?_
      refine CallK.pd (k63n) ?_; refine wXo ?_
      refine hK _ ?_; clear hK K
      cases hpn:posA t p (T.take (n+1)) with
      | true =>
        refine wCd ?_ ?_
        · intro _
          refine awp_skip ?_
          refine awp_block ?_
          refine wRg ?_
          refine inblock_norm ?_
          have hlt:n+1<T.length:=by
            rcases Nat.lt_or_ge (n+1) T.length with h | h
            · exact h
            · rw [show n+1=T.length by omega,hlast] at hpn
              cases hpn
          refine round_endG (n+1) [0,1] ⟨by omega,⟨hlt,fun i hi => ?_⟩,?_⟩
          · rcases Nat.lt_or_ge i n with h | h
            · exact hall i h
            · obtain rfl:i=n:=by omega
              exact hpn
          · push_cast
            exact wRen
        · intro h; cases h
      | false =>
        have hln:=hat n hn hall hpn
        have hw0n:=hw0 n
        rw [hln]
        have hwsn:=hwst n
        have hwln:=hwl n
        refine wCd ?_ ?_
        · intro h; cases h
        intro _
        refine wEx ?_
        refine awp_seq ?_
        refine wRg ?_
        refine awp_seq ?_
        refine awp_seq ?_
        refine wRg ?_
        refine awp_virtJ 2 1 1 _ rfl rfl ?_
        simp only [List.set_cons_succ,List.set_cons_zero,List.cons_append,List.nil_append,List.length_cons,List.length_nil]
        refine awp_block ?_
        refine awp_loopP (α:=Nat) (st:=fun o=>⟨[(1,.d (.sl (p.map encCh))),(2,.d (.sl (T.map encR))),(6,.ptr 0 0 0),(9,.ptr 1 0 0),(11,.d (.int .i64 n)),(12,.ptr 2 0 0),(13,.d (.int .i64 o))],[.cells [.d (.int .i64 0),.nil],.cells [.d (.sl (f.map encNd)),.d (.sl (P.map encP2)),.d (.sl (Q.map encH))],.cells [.d (.int .i64 n),.ref 3 0 (whoL t p T n o).length],.data 1 ((whoL t p T n o).map encI)]⟩)
          (inv:=fun o=>o≤4) (μ:=fun o=>4 - o) (x0:=0) (r0:=[0,1,2,3]) (Nat.zero_le _) ?_ ?_
        · simp only [hw0n]
          exact wRen
        intro o ho
        have hlo:=hwln o
        refine awp_seq ?_
        refine awp_seq ?_
        by_cases h0:n=0
        · have d1:decide ((n:Int) > 0)=false:=decide_eq_false (by omega)
          refine awpF_region ?_; intro K hK; simp only [push_cast,seval,d1]; refine wKk hK ?_; clear hK K
          refine wCd ?_ ?_
          · intro h; cases h
          intro _
          refine wEx ?_
          refine awp_seq ?_
          refine wRg ?_
          refine wRet ?_
          subst h0
          simp only [hw00]
          exact DeepV.tups (DeepV.cons (DeepV.aggs (DeepV.cons (.dd _) (DeepV.cons (DeepV.row rfl rfl) DeepV.nils))) (DeepV.cons (.dd _) (DeepV.cons (.dd _) DeepV.nils)))
        have d1:decide ((n:Int) > 0)=true:=decide_eq_true (by omega)
        by_cases h4:o<4
        · have d2:decide ((o:Int)≤3)=true:=decide_eq_true (by omega)
          have j66:=k66 n h0 hn (o:Int)
          rw [← take_snoc hn] at j66
          have hst:=hwsn o h0
          generalize keepA t p (T.take n) (T[n]?.getD []) (o:Int)=kb at *
          generalize whoL t p T n o=S at *
          generalize hS':whoL t p T n (o+1)=S' at *
          have tS:(S.map encI).take S.length=S.map encI:=List.take_of_length_le (by simp)
          refine awpF_region ?_; intro K hK; simp only [push_cast,seval,d1,d2]; refine wKk hK ?_; clear hK K
          refine wCd ?_ ?_
          · intro _
            refine awp_skip ?_
            refine awp_mid (fun u=>u=⟨[(1,.d (.sl (p.map encCh))),(2,.d (.sl (T.map encR))),(6,.ptr 0 0 0),(9,.ptr 1 0 0),(11,.d (.int .i64 n)),(12,.ptr 2 0 0),(13,.d (.int .i64 o))],[.cells [.d (.int .i64 0),.nil],.cells [.d (.sl (f.map encNd)),.d (.sl (P.map encP2)),.d (.sl (Q.map encH))],.cells [.d (.int .i64 n),.ref 3 0 S'.length],.data 1 (S'.map encI)]⟩) ?_ ?_
            · refine awp_block ?_
              refine awp_seq ?_
              refine awpF_draw [0,1,2,3,4,5,6,7] (by kernel_rfl) (by kernel_rfl) rfl ?_; intro K hK; simp only [push_cast,seval,List.drop_zero,Int.toNat_zero,Nat.sub_zero,wn1,tn1,tk,Int.toNat_natCast]
              refine wOb ?_
              refine CallK.pd (j66) ?_; refine wXo ?_
              refine hK _ ?_; clear hK K
              cases kb with
              | true =>
                rw [if_pos rfl] at hst
                refine wCd ?_ ?_
                · intro _
                  refine awpF_region ?_; intro K hK; simp only [push_cast,seval,tS]; refine wKk hK ?_; clear hK K
                  refine inblock_norm ?_
                  refine mid_end [0,1,2,3] _ rfl ?_
                  rw [hst]
                  refine ⟨by simp,by simp,by simp [push_cast,seval,encI],by simp [push_cast,seval],by simp [push_cast,seval],by simp [push_cast,seval]⟩
                · intro h; cases h
              | false =>
                rw [if_neg (by decide),List.append_nil] at hst
                refine wCd ?_ ?_
                · intro h; cases h
                intro _
                refine awp_skip ?_
                refine inblock_norm ?_
                refine mid_end [0,1,2,3] _ rfl ?_
                rw [hst]
                exact wRen
            rintro _ rfl
            refine wRg ?_
            refine round_endG (o+1) [0,1,2,3] ⟨by omega,by omega,?_⟩
            simp only [hS']
            push_cast
            exact wRen
          · intro h; cases h
        · have d2:decide ((o:Int)≤3)=false:=decide_eq_false (by omega)
          obtain rfl:o=4:=by omega
          refine awpF_region ?_; intro K hK; simp only [push_cast,seval,d1,d2]; refine wKk hK ?_; clear hK K
          refine wCd ?_ ?_
          · intro h; cases h
          intro _
          refine wEx ?_
          refine awp_seq ?_
          refine wRg ?_
          refine wRet ?_
          exact DeepV.tups (DeepV.cons (DeepV.aggs (DeepV.cons (.dd _) (DeepV.cons (DeepV.row rfl (by simp)) DeepV.nils))) (DeepV.cons (.dd _) (DeepV.cons (.dd _) DeepV.nils)))
  · have e1:reL f p t T=false:=by rw [reL,decide_eq_false he,Bool.false_and]
    have e2:reAt f p t T=0:=by rw [reAt,e1]; rfl
    have e3:reWho f p t T=[]:=by rw [reWho,e1]; rfl
    have hb1:(reE f p t T != 0)=true:=by simpa using he
    rw [e1,e2,e3]
    generalize reE f p t T=e at *
    refine pdv_of (fn:=Tryz.f29) [.cell 6 56,.tmp 7,.tmp 8] (by kernel_rfl) rfl (by kernel_rfl) (Nat.le_of_ble_eq_true rfl) (by kernel_rfl) rfl ?_
    refine awp_seq ?_
    refine wRg ?_
    refine awp_seq ?_
    refine awpF_region ?_; intro K hK; simp only [push_cast,seval]
    refine wOb ?_
    refine CallK.rel h62 ?_
    rintro _ _ ⟨⟨a',b',Q,rfl,hok⟩,rfl⟩
    simp only [push_cast,seval]
    refine wOb ?_
    refine hK _ ?_; clear hK K
    (repeat' (first | refine awp_seq ?_ | refine awp_skip ?_ | refine awp_block ?_ | ((first | (refine awpF_region ?_; intro K hK) | (refine awpF_draw (id:=5) [0,1,2,3,4,5,6] (by kernel_rfl) (by kernel_rfl) rfl ?_; intro K hK) | (refine awpF_draw (id:=11) [0,1,2,3,4,5,6,7] (by kernel_rfl) (by kernel_rfl) rfl ?_; intro K hK)); simp only [push_cast,seval,hb1]; refine wObW ?_) | (refine hK _ ?_; clear hK K) | (refine wCd ?_ ?_) | (with_reducible intro hb; exfalso; revert hb; simp [hb1]; done) | (with_reducible intro hb; exfalso; replace hb:=wHb hb; omega; done) | (with_reducible intro hb; replace hb:=wHb hb) | (refine wEx ?_) | (refine wRp ?_; refine fin_of (by simp only [push_cast,seval,hb1]; first | done | rfl) ob1 ?_) | (refine inblock_norm ?_)))
    refine CallK.pg (x0:=.d (.bool false)) (fun h=>by cases h) ?_
    simp only [push_cast,seval]
    refine wOb ?_
    refine hK _ ?_; clear hK K
    (repeat' (first | refine awp_seq ?_ | refine awp_skip ?_ | refine awp_block ?_ | ((first | (refine awpF_region ?_; intro K hK) | (refine awpF_draw (id:=5) [0,1,2,3,4,5,6] (by kernel_rfl) (by kernel_rfl) rfl ?_; intro K hK) | (refine awpF_draw (id:=11) [0,1,2,3,4,5,6,7] (by kernel_rfl) (by kernel_rfl) rfl ?_; intro K hK)); simp only [push_cast,seval,hb1]; refine wObW ?_) | (refine hK _ ?_; clear hK K) | (refine wCd ?_ ?_) | (with_reducible intro hb; exfalso; revert hb; simp [hb1]; done) | (with_reducible intro hb; exfalso; replace hb:=wHb hb; omega; done) | (with_reducible intro hb; replace hb:=wHb hb) | (refine wEx ?_) | (refine wRp ?_; refine fin_of (by simp only [push_cast,seval,hb1]; first | done | rfl) ob1 ?_) | (refine inblock_norm ?_)))
    exact DeepV.tups (DeepV.cons (DeepV.aggs (DeepV.cons (.dd _) (DeepV.cons .nil DeepV.nils))) (DeepV.cons (.dd _) (DeepV.cons (.dd _) DeepV.nils)))
end Go.Aw
