/-
  Possible of the program: what is asked of a formula,a plant and rows. Conditions: lengths that fit.
-/
import Derived.Test.YtlimahhonfckdaaGreatDoorPxY6
namespace Go.Aw
set_option linter.unusedSimpArgs false
set_option linter.unusedVariables false
open Go.RowKit Go.Proofs
set_option maxRecDepth 100000

theorem szA_mul {c n:Int} (hc:1≤c∧c≤10) (hn:1≤n∧n≤6562) : 1≤n*c∧n*c≤65620:=by
  have h6:1*1≤n*c:=Int.mul_le_mul hn.1 hc.1 (by omega) (by omega)
  have h7:n*c≤6562*10:=Int.mul_le_mul hn.2 hc.2 (by omega) (by omega)
  omega
set_option maxHeartbeats 2000000 in
theorem q62 (f:List Nd) (p:List Ch) (t:Fm) (T:List (List Int)) (hf:f.length≤1000000) (hpl:p.length≤1000000) (hTl:T.length≤1000000) (ht:shE f p.length=0→t.wf∧f=t.flat) :
    PC Tryz.prog 62 [.sl (f.map encNd),.sl (p.map encCh),.sl (T.map encR)] fun x H=>FmR f (reE f p t T) x∧H=[]:=by
  have h32:=p32 p hpl
  have h45:=p45 f p.length t hf ht
  have h20:=p20 T p.length
  have hq:∀ row,row∈T.map encR→row.length=1:=fun row hr=>by obtain ⟨_,_,rfl⟩:=List.mem_map.1 hr; rfl
  have hE:reE f p t T=if plE p≠0 then plE p else if chkE f p.length t≠0 then chkE f p.length t else if trE T p.length≠0 then trE T p.length else
    if T=[] then 6 else if 6561<szA (numC p 1) t.hz.toNat 1 then 8 else if chainB p T=true then 0 else 10:=rfl
  by_cases h1:plE p=0
  · rw [if_neg (by simpa using h1)] at hE
    rw [h1] at h32
    by_cases h2:chkE f p.length t=0
    · rw [if_neg (by simpa using h2)] at hE
      rw [h2] at h45
      by_cases h3:trE T p.length=0
      · rw [if_neg (by simpa using h3)] at hE
        rw [h3] at h20
        by_cases h4:T=[]
        · rw [if_pos h4] at hE
          rw [hE]
          have d4:((T.length:Int)==0)=true:=by rw [h4]; rfl
          refine pcv_of (fn:=Tryz.f62) [.cell 6 99,.tmp 7] (by kernel_rfl) rfl (by kernel_rfl) (Nat.le_of_ble_eq_true rfl) (by kernel_rfl) rfl ?_
          (repeat' (first | refine awp_seq ?_ | refine awp_skip ?_ | refine awp_block ?_ | ((first | ((fail_if_success refine awpF_region (id:=4) ?_); refine awpF_region ?_; intro K hK) | (refine awpF_draw (id:=22) [0,1,2,3,4,5,6,7,8,9,10,11] (by kernel_rfl) (by kernel_rfl) rfl ?_; intro K hK) | refine CallK.pd (h32) ?_ | refine CallK.pg (fun _=>h32) ?_); simp only [push_cast,seval,bne_self_eq_false]; refine wObW ?_) | (refine hK _ ?_; clear hK K) | (refine wCd ?_ ?_) | (with_reducible intro hb; exfalso; revert hb; simp [bne_self_eq_false]; done) | (with_reducible intro hb; exfalso; replace hb:=wHb hb; omega; done) | (with_reducible intro hb; replace hb:=wHb hb) | (refine wEx ?_) | (refine wRp ?_; refine fin_of (by simp only [push_cast,seval,bne_self_eq_false]; first | done | rfl) ob1 ?_) | (refine inblock_norm ?_)))
          refine awpF_region ?_; intro K hK; simp only [push_cast,seval]
          refine wOb ?_
          refine CallK.rel h45 ?_
          rintro _ _ ⟨⟨a,b,Q,rfl,hok⟩,rfl⟩
          simp only [push_cast,seval]
          refine wOb ?_
          refine hK _ ?_; clear hK K
          (repeat' (first | refine awp_seq ?_ | refine awp_skip ?_ | refine awp_block ?_ | ((first | (refine awpF_region ?_; intro K hK) | (refine awpF_draw (id:=22) [0,1,2,3,4,5,6,7,8,9,10,11] (by kernel_rfl) (by kernel_rfl) rfl ?_; intro K hK) | refine CallK.pd (h20) ?_ | refine CallK.pg (fun _=>h20) ?_); simp only [push_cast,seval,bne_self_eq_false,d4]; refine wObW ?_) | (refine hK _ ?_; clear hK K) | (refine wCd ?_ ?_) | (with_reducible intro hb; exfalso; revert hb; simp [bne_self_eq_false,d4]; done) | (with_reducible intro hb; exfalso; replace hb:=wHb hb; omega; done) | (with_reducible intro hb; replace hb:=wHb hb) | (refine wEx ?_) | (refine wRp ?_; refine fin_of (by simp only [push_cast,seval,bne_self_eq_false,d4]; first | done | rfl) ob1 ?_) | (refine inblock_norm ?_)))
          exact FmR.none (by decide)
        rw [if_neg h4] at hE
        have d4:((T.length:Int)==0)=false:=beq_eq_false_iff_ne.2 (by have:=List.length_pos_iff.2 h4; omega)
        have hT1:=List.length_pos_iff.2 h4
        obtain ⟨hp1,hp2,hpok,hp9⟩:=pl_ok h1
        have hnum:=numC_bd p 1 hpok (by decide)
        have h57:=p57 p hpok (by omega)
        obtain ⟨t1,t2⟩:=ht (chk_sh h2)
        obtain ⟨hf40,hno,_⟩:=sh_facts (chk_sh h2)
        have hz60:=chk_hz h2
        have hz0:=(hz_bd t t1 fun n hn=>hno n (by rw [t2]; exact hn)).1
        obtain ⟨hz,hhz⟩ : ∃ hz:Nat,t.hz=hz:=⟨t.hz.toNat,by omega⟩
        obtain ⟨_,_,hT4,hrows⟩:=tr_facts h3
        have hch:∀ (i:Nat) (a b:List Int),T[i]? = some a→T[i+1]? = some b→PD Tryz.prog 92 [.sl (p.map encCh),.sl (a.map encI),.sl (b.map encI)] (.d (.bool (canV p a b))):=fun i a b ha hb=>by
          have ra:=hrows a (List.mem_of_getElem? ha)
          have rb:=hrows b (List.mem_of_getElem? hb)
          exact q92 p a b hpok (by omega) (by omega) (by omega) ra.2
        have hcd:=fun (i:Nat) (a b:List Int)=>chainB_drop (p:=p) (T:=T) (i:=i) (a:=a) (b:=b)
        have hce:=fun (i:Nat)=>chainB_end (p:=p) (T:=T) (i:=i)
        rw [hhz,Int.toNat_natCast] at hE
        generalize numC p 1=c at *
        refine pcv_of (fn:=Tryz.f62) [.cell 6 99,.tmp 7] (by kernel_rfl) rfl (by kernel_rfl) (Nat.le_of_ble_eq_true rfl) (by kernel_rfl) rfl ?_
        (repeat' (first | refine awp_seq ?_ | refine awp_skip ?_ | refine awp_block ?_ | ((first | ((fail_if_success refine awpF_region (id:=4) ?_); refine awpF_region ?_; intro K hK) | (refine awpF_draw (id:=22) [0,1,2,3,4,5,6,7,8,9,10,11] (by kernel_rfl) (by kernel_rfl) rfl ?_; intro K hK) | refine CallK.pd (h32) ?_ | refine CallK.pg (fun _=>h32) ?_); simp only [push_cast,seval,bne_self_eq_false]; refine wObW ?_) | (refine hK _ ?_; clear hK K) | (refine wCd ?_ ?_) | (with_reducible intro hb; exfalso; revert hb; simp [bne_self_eq_false]; done) | (with_reducible intro hb; exfalso; replace hb:=wHb hb; omega; done) | (with_reducible intro hb; replace hb:=wHb hb) | (refine wEx ?_) | (refine wRp ?_; refine fin_of (by simp only [push_cast,seval,bne_self_eq_false]; first | done | rfl) ob1 ?_) | (refine inblock_norm ?_)))
        refine awpF_region ?_; intro K hK; simp only [push_cast,seval]
        refine wOb ?_
        refine CallK.rel h45 ?_
        rintro _ _ ⟨⟨a,b,Q,rfl,hok⟩,rfl⟩
        obtain ⟨rfl,P,rfl,g1,g2,g3⟩:=hok rfl
        have htop:=(g3 t t1 t2).top
        have hz':(Q.map encH)[0]? = some [.int .i64 hz]:=by rw [List.getElem?_map,htop,hhz]; rfl
        have hlq:0<Q.length:=by rw [g2,t2]; exact t.len_pos
        have hqq:∀ row,row∈Q.map encH→row.length=1:=fun row hr=>by obtain ⟨_,_,rfl⟩:=List.mem_map.1 hr; rfl
        simp only [push_cast,seval]
        refine wOb ?_
        refine hK _ ?_; clear hK K
        (repeat' (first | refine awp_seq ?_ | refine awp_skip ?_ | refine awp_block ?_ | ((first | ((fail_if_success refine awpF_region (id:=12) ?_); refine awpF_region ?_; intro K hK) | (refine awpF_draw (id:=22) [0,1,2,3,4,5,6,7,8,9,10,11] (by kernel_rfl) (by kernel_rfl) rfl ?_; intro K hK) | refine CallK.pd (h20) ?_ | refine CallK.pg (fun _=>h20) ?_); simp only [push_cast,seval,bne_self_eq_false,d4]; refine wObW ?_) | (refine hK _ ?_; clear hK K) | (refine wCd ?_ ?_) | (with_reducible intro hb; exfalso; revert hb; simp [bne_self_eq_false,d4]; done) | (with_reducible intro hb; exfalso; replace hb:=wHb hb; omega; done) | (with_reducible intro hb; replace hb:=wHb hb) | (refine wEx ?_) | (refine wRp ?_; refine fin_of (by simp only [push_cast,seval,bne_self_eq_false,d4]; first | done | rfl) ob1 ?_) | (refine inblock_norm ?_)))
        refine wRg ?_
        refine awp_seq ?_
        refine awp_seq ?_
        refine awpF_region ?_; intro K hK; simp only [push_cast,seval,hz',Int.toNat_zero]; refine wKk hK ?_; clear hK K
        refine awp_block ?_
        refine awp_loopP (α:=Nat × Int) (st:=fun x=>⟨[(1,.d (.sl (p.map encCh))),(2,.d (.sl (T.map encR))),(6,.ptr 0 0 0),(9,.ptr 1 0 0),(12,.d (.int .i64 x.2)),(46,.d (.int .i64 hz)),(47,.d (.int .i64 x.1))],[.cells [.nil,.nil,.nil],.cells [.d (.sl (f.map encNd)),.d (.sl (P.map encP2)),.d (.sl (Q.map encH))]]⟩)
          (inv:=fun x=>x.1≤hz∧(1≤x.2∧x.2≤6562)∧szA c (hz - x.1) x.2=szA c hz 1) (μ:=fun x=>hz - x.1) (x0:=(0,1)) (r0:=[0,1]) ⟨Nat.zero_le _,by omega,rfl⟩ ?_ ?_
        · exact wRen
        rintro ⟨i,n⟩ ⟨hi,hn,hinv⟩
        dsimp only at hi hn hinv ⊢
        refine awp_seq ?_
        refine wRg ?_
        refine awp_seq ?_
        refine wCd ?_ ?_
        · intro h5; replace h5:=wHb h5
          have hm:=szA_mul (c:=c) (n:=n) (by omega) hn
          have e3:IntKind.i64.wrap (n*c)=n*c:=wrapI _ (by omega)
          have hst:szA c (hz - (i+1)) (min (n*c) 6562)=szA c (hz - i) n:=by
            rw [show hz - i=hz - (i+1)+1 by omega,szA]
          rw [hinv] at hst
          generalize hpr:n*c=pr at *
          refine awp_skip ?_
          refine awp_seq ?_
          refine awp_block ?_
          refine awpF_region ?_; intro K hK; simp only [push_cast,seval]
          refine wOb ?_
          refine CallK.pd (h57) ?_; refine wXo ?_
          simp only [push_cast,seval,e3,hpr]
          refine wOb ?_
          refine hK _ ?_; clear hK K
          refine inblock_norm ?_
          refine wRg ?_
          refine round_endG (i+1,min pr 6562) [0,1] ⟨by show hz - (i+1)<hz - i; omega,⟨by show i+1≤hz; omega,by show 1≤min pr 6562∧min pr 6562≤6562; omega,hst⟩,?_⟩
          push_cast
          exact wRen
        · intro h5; replace h5:=wHb h5
          obtain rfl:i=hz:=by omega
          rw [Nat.sub_self,szA] at hinv
          rw [← hinv] at hE
          refine wEx ?_
          refine awp_seq ?_
          refine awp_seq ?_
          refine wRg ?_
          by_cases h6:6561<n
          · rw [if_pos h6] at hE
            rw [hE]
            have d6:decide (n > 6561)=true:=decide_eq_true h6
            refine wCd ?_ ?_
            · intro _
              refine awp_seq ?_
              refine wRg ?_
              refine wRet ?_
              exact FmR.none (by decide)
            · intro h; rw [d6] at h; cases h
          rw [if_neg h6] at hE
          have d6:decide (n > 6561)=false:=decide_eq_false h6
          refine wCd ?_ ?_
          · intro h; rw [d6] at h; cases h
          intro _
          refine awp_skip ?_
          refine awp_seq ?_
          refine awp_seq ?_
          refine awpF_region ?_; intro K hK; simp only [push_cast,seval,Int.toNat_one]; refine wKk hK ?_; clear hK K
          refine awp_block ?_
          refine awp_loopP (α:=Nat) (st:=fun k=>⟨[(1,.d (.sl (p.map encCh))),(2,.d (.sl (T.map encR))),(6,.ptr 0 0 0),(9,.ptr 1 0 0),(60,.d (.int .i64 ((T.length - 1:Nat) : Int))),(61,.d (.int .i64 k))],[.cells [.nil,.nil,.nil],.cells [.d (.sl (f.map encNd)),.d (.sl (P.map encP2)),.d (.sl (Q.map encH))]]⟩)
            (inv:=fun k=>k+1≤T.length∧chainB p T=chainB p (T.drop k)) (μ:=fun k=>T.length - k) (x0:=0) (r0:=[0,1]) ⟨by omega,by rw [List.drop_zero]⟩ ?_ ?_
          · exact wRen
          rintro k ⟨hk,hc⟩
          refine awp_seq ?_
          refine wRg ?_
          refine awp_seq ?_
          refine wCd ?_ ?_
          · intro h7; replace h7:=wHb h7
            have hlt:k+1<T.length:=by omega
            obtain ⟨x,hx⟩ : ∃ x,T[k]? = some x:=⟨_,List.getElem?_eq_getElem (by omega)⟩
            obtain ⟨y,hy⟩ : ∃ y,T[k+1]? = some y:=⟨_,List.getElem?_eq_getElem hlt⟩
            have k92:=hch k x y hx hy
            have kcd:=hcd k x y hx hy
            have wk:IntKind.i64.wrap ((k:Int)+1)=(k:Int)+1:=wrapI _ (by omega)
            have tk:((k:Int)+1).toNat=k+1:=by omega
            generalize canV p x y=cv at *
            refine awp_skip ?_
            refine awp_seq ?_
            refine awp_block ?_
            refine awp_seq ?_
            refine wRg ?_
            refine awp_seq ?_
            refine awpF_draw [0,1,2,3,4,5,6,7,8,9,10,11] (by kernel_rfl) (by kernel_rfl) rfl ?_; intro K hK; simp only [push_cast,seval,hx,hy,encR,wk,tk,Int.toNat_natCast]
            refine wOb ?_
            refine CallK.pd (k92) ?_; refine wXo ?_
            refine hK _ ?_; clear hK K
            cases cv with
            | false =>
              rw [Bool.false_and] at kcd
              rw [hc,kcd,if_neg (by decide)] at hE
              rw [hE]
              refine wCd ?_ ?_
              · intro _
                refine awp_seq ?_
                refine wRg ?_
                refine wRet ?_
                exact FmR.none (by decide)
              · intro h; cases h
            | true =>
              rw [Bool.true_and] at kcd
              refine wCd ?_ ?_
              · intro h; cases h
              intro _
              refine awp_skip ?_
              refine inblock_norm ?_
              refine wRg ?_
              refine round_endG (k+1) [0,1] ⟨by omega,⟨by omega,by rw [hc,kcd]⟩,?_⟩
              push_cast
              exact wRen
          · intro h7; replace h7:=wHb h7
            rw [hc,hce k (by omega),if_pos rfl] at hE
            rw [hE]
            refine wEx ?_
            refine awp_seq ?_
            refine wRg ?_
            refine wRet ?_
            exact ⟨_,deep_data,_,_,Q,rfl,fun _=>⟨rfl,P,rfl,g1,g2,g3⟩⟩
      · rw [if_pos (by simpa using h3)] at hE
        rw [hE]
        have hb1:(trE T p.length != 0)=true:=by simpa using h3
        generalize trE T p.length=e at *
        refine pcv_of (fn:=Tryz.f62) [.cell 6 99,.tmp 7] (by kernel_rfl) rfl (by kernel_rfl) (Nat.le_of_ble_eq_true rfl) (by kernel_rfl) rfl ?_
        (repeat' (first | refine awp_seq ?_ | refine awp_skip ?_ | refine awp_block ?_ | ((first | ((fail_if_success refine awpF_region (id:=4) ?_); refine awpF_region ?_; intro K hK) | (refine awpF_draw (id:=22) [0,1,2,3,4,5,6,7,8,9,10,11] (by kernel_rfl) (by kernel_rfl) rfl ?_; intro K hK) | refine CallK.pd (h32) ?_ | refine CallK.pg (fun _=>h32) ?_); simp only [push_cast,seval,bne_self_eq_false]; refine wObW ?_) | (refine hK _ ?_; clear hK K) | (refine wCd ?_ ?_) | (with_reducible intro hb; exfalso; revert hb; simp [bne_self_eq_false]; done) | (with_reducible intro hb; exfalso; replace hb:=wHb hb; omega; done) | (with_reducible intro hb; replace hb:=wHb hb) | (refine wEx ?_) | (refine wRp ?_; refine fin_of (by simp only [push_cast,seval,bne_self_eq_false]; first | done | rfl) ob1 ?_) | (refine inblock_norm ?_)))
        refine awpF_region ?_; intro K hK; simp only [push_cast,seval]
        refine wOb ?_
        refine CallK.rel h45 ?_
        rintro _ _ ⟨⟨a,b,Q,rfl,hok⟩,rfl⟩
        simp only [push_cast,seval]
        refine wOb ?_
        refine hK _ ?_; clear hK K
        (repeat' (first | refine awp_seq ?_ | refine awp_skip ?_ | refine awp_block ?_ | ((first | (refine awpF_region ?_; intro K hK) | (refine awpF_draw (id:=22) [0,1,2,3,4,5,6,7,8,9,10,11] (by kernel_rfl) (by kernel_rfl) rfl ?_; intro K hK) | refine CallK.pd (h20) ?_ | refine CallK.pg (fun _=>h20) ?_); simp only [push_cast,seval,bne_self_eq_false,hb1]; refine wObW ?_) | (refine hK _ ?_; clear hK K) | (refine wCd ?_ ?_) | (with_reducible intro hb; exfalso; revert hb; simp [bne_self_eq_false,hb1]; done) | (with_reducible intro hb; exfalso; replace hb:=wHb hb; omega; done) | (with_reducible intro hb; replace hb:=wHb hb) | (refine wEx ?_) | (refine wRp ?_; refine fin_of (by simp only [push_cast,seval,bne_self_eq_false,hb1]; first | done | rfl) ob1 ?_) | (refine inblock_norm ?_)))
        exact FmR.none h3
    · rw [if_pos (by simpa using h2)] at hE
      rw [hE]
      have hb1:(chkE f p.length t != 0)=true:=by simpa using h2
      generalize chkE f p.length t=e at *
      refine pcv_of (fn:=Tryz.f62) [.cell 6 99,.tmp 7] (by kernel_rfl) rfl (by kernel_rfl) (Nat.le_of_ble_eq_true rfl) (by kernel_rfl) rfl ?_
      (repeat' (first | refine awp_seq ?_ | refine awp_skip ?_ | refine awp_block ?_ | ((first | ((fail_if_success refine awpF_region (id:=4) ?_); refine awpF_region ?_; intro K hK) | (refine awpF_draw (id:=22) [0,1,2,3,4,5,6,7,8,9,10,11] (by kernel_rfl) (by kernel_rfl) rfl ?_; intro K hK) | refine CallK.pd (h32) ?_ | refine CallK.pg (fun _=>h32) ?_); simp only [push_cast,seval,bne_self_eq_false]; refine wObW ?_) | (refine hK _ ?_; clear hK K) | (refine wCd ?_ ?_) | (with_reducible intro hb; exfalso; revert hb; simp [bne_self_eq_false]; done) | (with_reducible intro hb; exfalso; replace hb:=wHb hb; omega; done) | (with_reducible intro hb; replace hb:=wHb hb) | (refine wEx ?_) | (refine wRp ?_; refine fin_of (by simp only [push_cast,seval,bne_self_eq_false]; first | done | rfl) ob1 ?_) | (refine inblock_norm ?_)))
      refine awpF_region ?_; intro K hK; simp only [push_cast,seval]
      refine wOb ?_
      refine CallK.rel h45 ?_
      rintro _ _ ⟨⟨a,b,Q,rfl,hok⟩,rfl⟩
      simp only [push_cast,seval]
      refine wOb ?_
      refine hK _ ?_; clear hK K
      (repeat' (first | refine awp_seq ?_ | refine awp_skip ?_ | refine awp_block ?_ | ((first | (refine awpF_region ?_; intro K hK) | (refine awpF_draw (id:=22) [0,1,2,3,4,5,6,7,8,9,10,11] (by kernel_rfl) (by kernel_rfl) rfl ?_; intro K hK)); simp only [push_cast,seval,hb1]; refine wObW ?_) | (refine hK _ ?_; clear hK K) | (refine wCd ?_ ?_) | (with_reducible intro hb; exfalso; revert hb; simp [hb1]; done) | (with_reducible intro hb; exfalso; replace hb:=wHb hb; omega; done) | (with_reducible intro hb; replace hb:=wHb hb) | (refine wEx ?_) | (refine wRp ?_; refine fin_of (by simp only [push_cast,seval,hb1]; first | done | rfl) ob1 ?_) | (refine inblock_norm ?_)))
      exact FmR.none h2
  · rw [if_pos (by simpa using h1)] at hE
    rw [hE]
    have hb1:(plE p != 0)=true:=by simpa using h1
    generalize plE p=e at *
    refine pcv_of (fn:=Tryz.f62) [.cell 6 99,.tmp 7] (by kernel_rfl) rfl (by kernel_rfl) (Nat.le_of_ble_eq_true rfl) (by kernel_rfl) rfl ?_
    (repeat' (first | refine awp_seq ?_ | refine awp_skip ?_ | refine awp_block ?_ | ((first | (refine awpF_region ?_; intro K hK) | (refine awpF_draw (id:=22) [0,1,2,3,4,5,6,7,8,9,10,11] (by kernel_rfl) (by kernel_rfl) rfl ?_; intro K hK) | refine CallK.pd (h32) ?_ | refine CallK.pg (fun _=>h32) ?_); simp only [push_cast,seval,hb1]; refine wObW ?_) | (refine hK _ ?_; clear hK K) | (refine wCd ?_ ?_) | (with_reducible intro hb; exfalso; revert hb; simp [hb1]; done) | (with_reducible intro hb; exfalso; replace hb:=wHb hb; omega; done) | (with_reducible intro hb; replace hb:=wHb hb) | (refine wEx ?_) | (refine wRp ?_; refine fin_of (by simp only [push_cast,seval,hb1]; first | done | rfl) ob1 ?_) | (refine inblock_norm ?_)))
    exact FmR.none h1
theorem q27 (f:List Nd) (p:List Ch) (t:Fm) (T:List (List Int)) (hf:f.length≤1000000) (hpl:p.length≤1000000) (hTl:T.length≤1000000) (ht:shE f p.length=0→t.wf∧f=t.flat) :
    PD Tryz.prog 27 [.sl (f.map encNd),.sl (p.map encCh),.sl (T.map encR)] (.tup [.d (.bool (psB f p t T)),.d (.int .i64 (reE f p t T))]):=by
  have h62:=q62 f p t T hf hpl hTl ht
  by_cases he:reE f p t T=0
  · obtain ⟨hp,hc,htr,hT,_,_⟩:=re_facts he
    obtain ⟨t1,t2⟩:=ht (chk_sh hc)
    obtain ⟨hf40,hno,_⟩:=sh_facts (chk_sh hc)
    have e1:psB f p t T=posA t p T:=by rw [psB,decide_eq_true he,Bool.true_and]
    have h63:=fun (P:List (Nat × Nat)) (Q:List Int) (hok2:FmOk f P Q)=>pos_all (by omega) t1 t2 hok2 (firstE_mem (chk_sh hc)) hp (chk_hz hc) _ T (Nat.le_refl _) hT htr
    rw [e1,he]
    rw [he] at h62
    generalize posA t p T=b at *
    refine pd_of (fn:=Tryz.f27) [.tmp 6,.tmp 7] (by kernel_rfl) rfl (by kernel_rfl) (Nat.le_of_ble_eq_true rfl) (by kernel_rfl) rfl rfl ?_
    refine awp_seq ?_
    refine wRg ?_
    refine awp_seq ?_
    refine awpF_region ?_; intro K hK; simp only [push_cast,seval]
    refine wOb ?_
    refine CallK.rel h62 ?_
    rintro _ _ ⟨⟨a',b',Q,rfl,hok⟩,rfl⟩
    obtain ⟨rfl,P,rfl,hok2⟩:=hok rfl
    have k63:=h63 P Q hok2
    simp only [push_cast,seval]
    refine wOb ?_
    refine hK _ ?_; clear hK K
    (repeat' (first | refine awp_seq ?_ | refine awp_skip ?_ | refine awp_block ?_ | ((first | (refine awpF_region ?_; intro K hK) | refine CallK.pd (k63) ?_ | refine CallK.pg (fun _=>k63) ?_); simp only [push_cast,seval,bne_self_eq_false]; refine wObW ?_) | (refine hK _ ?_; clear hK K) | (refine wCd ?_ ?_) | (with_reducible intro hb; exfalso; revert hb; simp [bne_self_eq_false]; done) | (with_reducible intro hb; exfalso; replace hb:=wHb hb; omega; done) | (with_reducible intro hb; replace hb:=wHb hb) | (refine wEx ?_) | (refine wRp ?_; refine fin_of (by simp only [push_cast,seval,bne_self_eq_false]; first | done | rfl) ob1 ?_) | (refine inblock_norm ?_)))
    rfl
  · have e1:psB f p t T=false:=by rw [psB,decide_eq_false he,Bool.false_and]
    have hb1:(reE f p t T != 0)=true:=by simpa using he
    rw [e1]
    generalize reE f p t T=e at *
    refine pd_of (fn:=Tryz.f27) [.tmp 6,.tmp 7] (by kernel_rfl) rfl (by kernel_rfl) (Nat.le_of_ble_eq_true rfl) (by kernel_rfl) rfl rfl ?_
    refine awp_seq ?_
    refine wRg ?_
    refine awp_seq ?_
    refine awpF_region ?_; intro K hK; simp only [push_cast,seval]
    refine wOb ?_
    refine CallK.rel h62 ?_
    rintro _ _ ⟨⟨a',b',Q,rfl,hok⟩,rfl⟩
    simp only [push_cast,seval]
    refine wOb ?_
    refine hK _ ?_; clear hK K
    (repeat' (first | refine awp_seq ?_ | refine awp_skip ?_ | refine awp_block ?_ | ((first | (refine awpF_region ?_; intro K hK)); simp only [push_cast,seval,hb1]; refine wObW ?_) | (refine hK _ ?_; clear hK K) | (refine wCd ?_ ?_) | (with_reducible intro hb; exfalso; revert hb; simp [hb1]; done) | (with_reducible intro hb; exfalso; replace hb:=wHb hb; omega; done) | (with_reducible intro hb; replace hb:=wHb hb) | (refine wEx ?_) | (refine wRp ?_; refine fin_of (by simp only [push_cast,seval,hb1]; first | done | rfl) ob1 ?_) | (refine inblock_norm ?_)))
    rfl
end Go.Aw
