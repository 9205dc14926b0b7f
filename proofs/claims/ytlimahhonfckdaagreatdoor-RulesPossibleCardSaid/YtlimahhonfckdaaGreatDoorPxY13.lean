/-
  Who alone could have kept a rule,and when it was lost,on the reference's side. Conditions: lengths that fit.
-/
import Derived.Test.YtlimahhonfckdaaGreatDoorPxY11
import Derived.Test.YtlimahhonfckdaaGreatDoorPxAwOb
namespace Go.Aw
set_option linter.unusedSimpArgs false
set_option linter.unusedVariables false
open Go.RowKit Go.Proofs
set_option maxRecDepth 100000

set_option maxHeartbeats 4000000 in
theorem q67 {f:List Nd} {t:Fm} {p:List Ch} (hf:f.length≤1000) (hwf:t.wf) (hft:f=t.flat) (hn:∀ n,n∈f→nodeE n p.length=0) (hp:plE p=0) (hz:t.hz≤60)
    (W:List (List Int)) (q:List Int) (o:Int) (hW:W≠[]) (hWl:W.length≤399) (htr:trE (W++[q]) p.length=0) :
    PD Tryz.prog 67 [.sl (f.map encNd),.sl (p.map encCh),.sl ((W++[q]).map encR),.int .i64 o] (.d (.bool (keepA t p W q o))):=by
  obtain ⟨hp1,hp2,hpok,hp9⟩:=pl_ok hp
  obtain ⟨_,_,hlT,hrows⟩:=tr_facts htr
  have hlast:=hrows _ (List.mem_append_left [q] (last_mem hW))
  have hql:=hrows q (by simp)
  have hlg:=last_get hW
  have hWl1:=List.length_pos_iff.2 hW
  have h56:=p56 p (W.getLastD []) hp (by omega) hlast.2
  have h9:=(folV_len (row:=W.getLastD []) hp (by omega)).2
  have hrl:∀ r,r∈folV p (W.getLastD [])→r.length=p.length:=fun r hr=>(folV_row p _ hpok (by omega) r hr).1
  have h65:∀ r,r∈folV p (W.getLastD [])→PD Tryz.prog 65 [.sl (f.map encNd),.sl (p.map encCh),.sl ((W++[r]).map encR)] (.d (.bool (posA t p (W++[r])))):=fun r hr=>by
    have hr2:=folV_row p _ hpok (by omega) r hr
    refine rpos_all hf hwf hft hn hp hz _ (W++[r]) (Nat.le_refl _) (by simp) (tr_of (by omega) (by rw [List.length_append,List.length_singleton]; omega) fun s hs => ?_)
    rcases List.mem_append.1 hs with hs | hs
    · exact hrows s (List.mem_append_left _ hs)
    · obtain rfl:=List.mem_singleton.1 hs
      exact ⟨by omega,hr2.2⟩
  have hK:keepA t p W q o=(folV p (W.getLastD [])).any fun r=>ownR p o r q&&posA t p (W++[r]):=rfl
  rw [hK]
  have hqw:∀ row,row∈W.map encR→row.length=1∧row.all D.leaf=true:=fun r h=>encR_row h
  have hw1:IntKind.i64.wrap ((W.length:Int) - 1)=((W.length - 1:Nat) : Int):=by rw [wrapI _ (by omega)]; omega
  have hww:IntKind.i64.wrap (W.length:Int)=(W.length:Int):=wrapI _ (by omega)
  have hTl:(W++[q]).length=W.length+1:=by rw [List.length_append]; rfl
  have htk:((W++[q]).map encR).take W.length=W.map encR:=by rw [← List.map_take,List.take_left' rfl]
  have hgt:(W++[q])[W.length]? = some q:=by rw [List.getElem?_append_right (Nat.le_refl _),Nat.sub_self]; rfl
  have hgl:(W++[q])[W.length - 1]? = some (W.getLastD []):=by rw [List.getElem?_append_left (by omega)]; exact hlg
  have hqT:∀ row,row∈(W++[q]).map encR→row.length=1:=fun row hr=>by obtain ⟨_,_,rfl⟩:=List.mem_map.1 hr; rfl
  have hqp:∀ row,row∈p.map encCh→row.length=5:=fun row hr=>by obtain ⟨_,_,rfl⟩:=List.mem_map.1 hr; rfl
  have hqq:∀ row,row∈q.map encI→row.length=1:=fun row hr=>by obtain ⟨_,_,rfl⟩:=List.mem_map.1 hr; rfl
  have tW:(W.map encR).take W.length=W.map encR:=List.take_of_length_le (by simp)
  clear hK
  generalize W.getLastD []=Lr at *
  generalize hL:folV p Lr=L at *
  generalize W++[q]=T at *
  have hqL:∀ row,row∈L.map encR→row.length=1:=fun row hr=>by obtain ⟨_,_,rfl⟩:=List.mem_map.1 hr; rfl
  refine pd_of (fn:=Tryz.f67) [.tmp 8] (by kernel_rfl) rfl (by kernel_rfl) (Nat.le_of_ble_eq_true rfl) (by kernel_rfl) rfl rfl ?_
  refine awp_seq ?_
  refine wRg ?_
  refine awp_seq ?_
  refine awpF_region ?_; intro K hK; simp only [push_cast,seval,hTl,Int.add_sub_cancel,hww]; refine wKk hK ?_; clear hK K
  refine awp_seq ?_
  refine awpF_region ?_; intro K hK; simp only [push_cast,seval,hw1,hgl,encR,Int.toNat_natCast]
  refine wOb ?_
  refine CallK.pd (h56) ?_; refine wXo ?_
  refine hK _ ?_; clear hK K
  refine awp_seq ?_
  refine awp_seq ?_
  refine wRg ?_
  refine awp_block ?_
  refine awp_loopP (α:=Nat) (st:=fun i=>⟨[(0,.d (.sl (f.map encNd))),(1,.d (.sl (p.map encCh))),(2,.d (.sl (T.map encR))),(3,.d (.int .i64 o)),(9,.d (.int .i64 W.length)),(10,.d (.sl (L.map encR))),(11,.d (.int .i64 i))],[]⟩)
    (inv:=fun i=>i≤L.length∧∀ r,r∈L.take i→(ownR p o r q&&posA t p (W++[r]))=false) (μ:=fun i=>L.length - i) (x0:=0) (r0:=[]) ⟨Nat.zero_le _,by simp⟩ ?_ ?_
  · exact wRen
  rintro i ⟨hi,hall⟩
  refine awp_seq ?_
  refine awp_seq ?_
  refine wRg ?_
  refine wCd ?_ ?_
  · intro h1; replace h1:=wHb h1
    have hlt:i<L.length:=by omega
    obtain ⟨r,hr⟩ : ∃ r,L[i]? = some r:=⟨_,List.getElem?_eq_getElem hlt⟩
    have hrm:=List.mem_of_getElem? hr
    have hrl':=hrl r hrm
    have ih:=h65 r hrm
    have hyy:(ownR p o r q&&posA t p (W++[r]))=true→(L.any fun r=>ownR p o r q&&posA t p (W++[r]))=true:=fun h=>List.any_eq_true.2 ⟨r,hrm,h⟩
    have happ:W.map encR++[[.sl (r.map encI)]]=(W++[r]).map encR:=by rw [List.map_append]; rfl
    have hlen:(W++[r]).length=W.length+1:=by rw [List.length_append]; rfl
    have hqr:∀ row,row∈r.map encI→row.length=1:=fun row hr=>by obtain ⟨_,_,rfl⟩:=List.mem_map.1 hr; rfl
    have hdrop:=fun (k:Nat) (c:Ch) (x y:Int)=>ownR_drop (p:=p) (o:=o) (r:=r) (q:=q) (c:=c) (x:=x) (y:=y) (k:=k)
    have hend:ownR (p.drop p.length) o (r.drop p.length) (q.drop p.length)=true:=ownR_end
    generalize hpr:posA t p (W++[r])=b at *
    generalize hT':W++[r]=T' at *
    have tT':(T'.map encR).take (W.length+1)=T'.map encR:=List.take_of_length_le (by simp [hlen])
    refine awp_skip ?_
    refine awp_seq ?_
    refine awp_block ?_
    refine awp_seq ?_
    refine wRg ?_
    refine awp_seq ?_
    refine awp_seq ?_
    refine wRg ?_
    refine awp_block ?_
    refine awp_loopP (α:=Nat × Bool) (st:=fun x=>⟨[(0,.d (.sl (f.map encNd))),(1,.d (.sl (p.map encCh))),(2,.d (.sl (T.map encR))),(3,.d (.int .i64 o)),(9,.d (.int .i64 W.length)),(10,.d (.sl (L.map encR))),(11,.d (.int .i64 i)),(12,.d (.bool x.2)),(13,.d (.int .i64 x.1))],[]⟩)
      (inv:=fun x=>x.1≤p.length∧ownR p o r q=(x.2&&ownR (p.drop x.1) o (r.drop x.1) (q.drop x.1))) (μ:=fun x=>p.length - x.1) (x0:=(0,true)) (r0:=[]) ⟨Nat.zero_le _,by simp⟩ ?_ ?_
    · exact wRen
    rintro ⟨k,hs⟩ ⟨hk,hinv⟩
    dsimp only at hk hinv ⊢
    refine awp_seq ?_
    refine awp_seq ?_
    refine wRg ?_
    refine wCd ?_ ?_
    · intro h2; replace h2:=wHb h2
      have hkl:k<p.length:=by omega
      obtain ⟨c,hc⟩ : ∃ c,p[k]? = some c:=⟨_,List.getElem?_eq_getElem hkl⟩
      obtain ⟨x,hx⟩ : ∃ x,r[k]? = some x:=⟨_,List.getElem?_eq_getElem (by omega)⟩
      obtain ⟨y,hy⟩ : ∃ y,q[k]? = some y:=⟨_,List.getElem?_eq_getElem (by omega)⟩
      have hst:=hdrop k c x y hc hx hy
      obtain ⟨ow,lo,hi',mn,mx⟩:=c
      dsimp only at hst
      rw [hst,← Bool.and_assoc] at hinv
      have hbx:(bif hs then (bif (ow==o) then true else (x==y)) else false)=(hs&&(decide (ow=o)||decide (x=y))):=by
        cases hs
        · rfl
        · by_cases h3:ow=o <;> by_cases h4:x=y <;> simp [h3,h4]
      generalize hnb:(hs&&(decide (ow=o)||decide (x=y)))=nb at *
      refine awp_skip ?_
      refine awp_mid (fun u=>u=⟨[(0,.d (.sl (f.map encNd))),(1,.d (.sl (p.map encCh))),(2,.d (.sl (T.map encR))),(3,.d (.int .i64 o)),(9,.d (.int .i64 W.length)),(10,.d (.sl (L.map encR))),(11,.d (.int .i64 i)),(12,.d (.bool nb)),(13,.d (.int .i64 k))],[]⟩) ?_ ?_
      · refine awp_block ?_
        cases hs with
        | false =>
          subst hnb
          refine awpF_draw [0,1,2,3,4,5,6,7,8,9,10,11,12,13,14,15,16,17,18,19,20,21,22,23,24,25,26,27] (by kernel_rfl) (by kernel_rfl) rfl ?_; intro K hK; simp only [push_cast,seval,hc,hx,hy,hr,hgt,encCh,encI,encR,Int.toNat_natCast]
          refine wOb ?_
          refine hK _ ?_
          clear hK K
          refine inblock_norm ?_
          refine mid_end [] _ rfl ?_
          exact wRen
        | true =>
          rw [Bool.true_and] at hnb
          by_cases h3:ow=o
          · rw [decide_eq_true h3,Bool.true_or] at hnb
            subst hnb
            have d3:(ow==o)=true:=by simpa using h3
            refine awpF_draw [0,1,2,3,4,5,6,7,8,9,10,11,12,13,14,15,16,17,18,19,20,21,22,23,24,25,26,27] (by kernel_rfl) (by kernel_rfl) rfl ?_; intro K hK; simp only [push_cast,seval,hc,hx,hy,hr,hgt,encCh,encI,encR,Int.toNat_natCast,d3]
            refine wOb ?_
            refine hK _ ?_
            clear hK K
            refine inblock_norm ?_
            refine mid_end [] _ rfl ?_
            exact wRen
          · rw [decide_eq_false h3,Bool.false_or] at hnb
            have d3:(ow==o)=false:=by simpa using h3
            have d4:(x==y)=nb:=by
              rw [← hnb]
              by_cases h4:x=y <;> simp [h4]
            refine awpF_draw [0,1,2,3,4,5,6,7,8,9,10,11,12,13,14,15,16,17,18,19,20,21,22,23,24,25,26,27] (by kernel_rfl) (by kernel_rfl) rfl ?_; intro K hK; simp only [push_cast,seval,hc,hx,hy,hr,hgt,encCh,encI,encR,Int.toNat_natCast,d3,d4]
            refine wOb ?_
            refine hK _ ?_
            clear hK K
            refine inblock_norm ?_
            refine mid_end [] _ rfl ?_
            exact wRen
      rintro _ rfl
      refine wRg ?_
      refine round_endG (k+1,nb) [] ⟨by show p.length - (k+1)<p.length - k; omega,⟨by show k+1≤p.length; omega,hinv⟩,?_⟩
      push_cast
      exact wRen
    · intro h2; replace h2:=wHb h2
      obtain rfl:k=p.length:=by omega
      rw [hend,Bool.and_true] at hinv
      rw [hinv] at hyy
      have hh:(ownR p o r q&&b)=(hs&&b):=by rw [hinv]
      refine wEx ?_
      refine awp_mid (fun u=>u=⟨[(0,.d (.sl (f.map encNd))),(1,.d (.sl (p.map encCh))),(2,.d (.sl (T.map encR))),(3,.d (.int .i64 o)),(9,.d (.int .i64 W.length)),(10,.d (.sl (L.map encR))),(11,.d (.int .i64 i)),(79,.d (.bool (hs&&b)))],[]⟩) ?_ ?_
      · cases hs with
        | true =>
          refine awpF_drawTS [0,1,2,3,5,6,9,10] (DT.op 7 (DT.or (DT.op 4 (DT.or (DT.op 8 (DT.op 11 (DT.op 12 (DT.op 13 (DT.op 14 (DT.op 15 (DT.op 16 DT.nil))))))) (DT.op 11 (DT.or (DT.op 8 (DT.op 12 (DT.op 13 (DT.op 14 (DT.op 15 (DT.op 16 DT.nil)))))) (DT.op 12 (DT.or (DT.op 8 (DT.op 13 (DT.op 14 (DT.op 15 (DT.op 16 DT.nil))))) (DT.op 13 (DT.op 8 (DT.op 14 (DT.op 15 (DT.op 16 DT.nil))))))))))) (DT.op 11 (DT.or (DT.op 4 (DT.or (DT.op 8 (DT.op 12 (DT.op 13 (DT.op 14 (DT.op 15 (DT.op 16 DT.nil)))))) (DT.op 12 (DT.or (DT.op 8 (DT.op 13 (DT.op 14 (DT.op 15 (DT.op 16 DT.nil))))) (DT.op 13 (DT.op 8 (DT.op 14 (DT.op 15 (DT.op 16 DT.nil))))))))) (DT.op 12 (DT.or (DT.op 4 (DT.or (DT.op 8 (DT.op 13 (DT.op 14 (DT.op 15 (DT.op 16 DT.nil))))) (DT.op 13 (DT.op 8 (DT.op 14 (DT.op 15 (DT.op 16 DT.nil))))))) (DT.op 13 (DT.op 4 (DT.op 8 (DT.op 14 (DT.op 15 (DT.op 16 DT.nil)))))))))))) (by kernel_rfl) (by kernel_rfl) (by kernel_rfl) ?_; intro K hK; simp only [push_cast,seval,htk,tW,hr,encR,Int.toNat_natCast,List.drop_zero,Int.toNat_zero,Nat.sub_zero,happ,tT']
          repeat' (first
            | (with_reducible refine And.intro ?_ ?_)
            | (refine CallK.pg (fun _=>ih) ?_; simp only [push_cast,seval])
            | exact ob1
            | fail)
          all_goals (refine hK _ ?_; refine mid_end [] _ rfl ?_; exact wRen)
        | false =>
          refine awpF_drawTS [0,1,2,3,5,6,9,10] (DT.op 7 (DT.or (DT.op 4 (DT.or (DT.op 8 (DT.op 11 (DT.op 12 (DT.op 13 (DT.op 14 (DT.op 15 (DT.op 16 DT.nil))))))) (DT.op 11 (DT.or (DT.op 8 (DT.op 12 (DT.op 13 (DT.op 14 (DT.op 15 (DT.op 16 DT.nil)))))) (DT.op 12 (DT.or (DT.op 8 (DT.op 13 (DT.op 14 (DT.op 15 (DT.op 16 DT.nil))))) (DT.op 13 (DT.op 8 (DT.op 14 (DT.op 15 (DT.op 16 DT.nil))))))))))) (DT.op 11 (DT.or (DT.op 4 (DT.or (DT.op 8 (DT.op 12 (DT.op 13 (DT.op 14 (DT.op 15 (DT.op 16 DT.nil)))))) (DT.op 12 (DT.or (DT.op 8 (DT.op 13 (DT.op 14 (DT.op 15 (DT.op 16 DT.nil))))) (DT.op 13 (DT.op 8 (DT.op 14 (DT.op 15 (DT.op 16 DT.nil))))))))) (DT.op 12 (DT.or (DT.op 4 (DT.or (DT.op 8 (DT.op 13 (DT.op 14 (DT.op 15 (DT.op 16 DT.nil))))) (DT.op 13 (DT.op 8 (DT.op 14 (DT.op 15 (DT.op 16 DT.nil))))))) (DT.op 13 (DT.op 4 (DT.op 8 (DT.op 14 (DT.op 15 (DT.op 16 DT.nil)))))))))))) (by kernel_rfl) (by kernel_rfl) (by kernel_rfl) ?_; intro K hK; simp only [push_cast,seval,htk,tW,hr,encR,Int.toNat_natCast,List.drop_zero,Int.toNat_zero,Nat.sub_zero,happ,tT']
          repeat' (first
            | (with_reducible refine And.intro ?_ ?_)
            | (refine CallK.pg (x0:=.d (.bool false)) (fun h=>by cases h) ?_; simp only [push_cast,seval])
            | exact ob1
            | fail)
          all_goals (refine hK _ ?_; refine mid_end [] _ rfl ?_; exact wRen)
      rintro _ rfl
      cases hb2:(hs&&b) with
      | true =>
        rw [hyy hb2]
        refine wCd ?_ ?_
        · intro _
          refine awp_seq ?_
          refine wRg ?_
          refine wRet ?_
          rfl
        · intro h; cases h
      | false =>
        refine wCd ?_ ?_
        · intro h; cases h
        intro _
        refine awp_skip ?_
        refine inblock_norm ?_
        refine wRg ?_
        refine round_endG (i+1) [] ⟨by omega,⟨by omega,fun s hs => ?_⟩,?_⟩
        · rw [List.take_add_one,hr] at hs
          simp only [Option.toList_some,List.mem_append,List.mem_singleton] at hs
          rcases hs with hs | rfl
          · exact hall s hs
          · rw [hT',hpr,hh,hb2]
        · push_cast
          exact wRen
  · intro h1; replace h1:=wHb h1
    obtain rfl:i=L.length:=by omega
    rw [List.take_length] at hall
    have hnone:(L.any fun r=>ownR p o r q&&posA t p (W++[r]))=false:=by
      rw [List.any_eq_false]
      intro r hr
      rw [hall r hr]
      decide
    rw [hnone]
    refine wEx ?_
    refine awp_seq ?_
    refine wRg ?_
    refine wRet ?_
    rfl
set_option maxHeartbeats 2000000 in
theorem q30 (f:List Nd) (p:List Ch) (t:Fm) (T:List (List Int)) (hf:f.length≤1000000) (hpl:p.length≤1000000) (hTl:T.length≤1000000) (ht:shE f p.length=0→t.wf∧f=t.flat) :
    PD Tryz.prog 30 [.sl (f.map encNd),.sl (p.map encCh),.sl (T.map encR)] (.tup [.agg [.d (.int .i64 (reAt f p t T)),.d (.sl ((reWho f p t T).map encI))],.d (.bool (reL f p t T)),.d (.int .i64 (reE f p t T))]):=by
  have h64:=q64 f p t T hf hpl hTl ht
  by_cases he:reE f p t T=0
  · obtain ⟨hp,hc,htr,hT,_,hch⟩:=re_facts he
    obtain ⟨t1,t2⟩:=ht (chk_sh hc)
    obtain ⟨hf40,hno,_⟩:=sh_facts (chk_sh hc)
    have hno2:∀ n,n∈t.flat→okN n:=fun n h=>hno n (by rw [t2]; exact h)
    obtain ⟨_,_,hT4,hrows⟩:=tr_facts htr
    have hchain:chain p T:=(chainB_iff (pl_ok hp).2.2.1 fun r hr=>by have:=(hrows r hr).1; omega).1 hch
    have hsub:∀ n,trE (T.take n) p.length=0:=fun n=>tr_of (by omega) (by rw [List.length_take]; omega) fun r hr=>hrows r (List.mem_of_mem_take hr)
    have hTl1:=List.length_pos_iff.2 hT
    have l65:=fun (n:Nat)=>rpos_all (by omega) t1 t2 (firstE_mem (chk_sh hc)) hp (chk_hz hc) _ (T.take (n+1)) (Nat.le_refl _) (fun e=>by
      have:=congrArg List.length e
      rw [List.length_take,List.length_nil] at this
      omega) (hsub (n+1))
    have k67:=fun (n:Nat) (hn0:n≠0) (hn:n<T.length) (o:Int)=>q67 (by omega) t1 t2 (firstE_mem (chk_sh hc)) hp (chk_hz hc) (T.take n) (T[n]?.getD []) o (fun e=>by
      have:=congrArg List.length e
      rw [List.length_take,List.length_nil] at this
      omega) (by rw [List.length_take]; omega) (by rw [← take_snoc hn]; exact hsub _)
    have hyes:(∀ i,i<T.length→posA t p (T.take (i+1))=true)→reL f p t T=false∧reAt f p t T=0∧reWho f p t T=[]:=fun h=>by
      have:=h (T.length - 1) (by omega)
      rw [show T.length - 1+1=T.length by omega,List.take_length] at this
      have e1:reL f p t T=false:=by rw [reL,this,Bool.not_true,Bool.and_false]
      exact ⟨e1,by rw [reAt,e1]; rfl,by rw [reWho,e1]; rfl⟩
    have hnot:∀ n,n<T.length→(∀ i,i<n→posA t p (T.take (i+1))=true)→posA t p (T.take (n+1))=false→reL f p t T=true∧reAt f p t T=(n:Nat)∧reWho f p t T=whoL t p T n 4:=fun n hn h1 h2=>by
      have hpos:posA t p T=false:=by
        cases hpos:posA t p T with
        | false=>rfl
        | true =>
          rw [posA_take t1 hno2 hchain (n+1) T.length (by omega) hn (Nat.le_refl _) (by rw [List.take_length]; exact hpos)] at h2
          cases h2
      have e1:reL f p t T=true:=by rw [reL,hpos,decide_eq_true he]; rfl
      exact ⟨e1,by rw [reAt,if_pos e1,lost_at hn h1 h2],by rw [reWho,if_pos e1,lost_at hn h1 h2]⟩
    have hw0:=fun (n:Nat)=>whoL_zero t p T n
    have hwst:=fun (n k:Nat) (h:n≠0)=>whoL_step (t:=t) (p:=p) (T:=T) h k
    have hwl:=fun (n k:Nat)=>whoL_len t p T n k
    have hw00:∀ k,whoL t p T 0 k=[]:=fun k=>by rw [whoL,if_pos rfl]
    rw [he]
    rw [he] at h64
    refine pdv_of (fn:=Tryz.f30) [.cell 6 56,.tmp 7,.tmp 8] (by kernel_rfl) rfl (by kernel_rfl) (Nat.le_of_ble_eq_true rfl) (by kernel_rfl) rfl ?_
    (repeat' (first | refine awp_seq ?_ | refine awp_skip ?_ | refine awp_block ?_ | ((first | ((fail_if_success refine awpF_region (id:=4) ?_); refine awpF_region ?_; intro K hK) | refine CallK.pd (h64) ?_ | refine CallK.pg (fun _=>h64) ?_); simp only [push_cast,seval,bne_self_eq_false]; refine wObW ?_) | (refine hK _ ?_; clear hK K) | (refine wCd ?_ ?_) | (with_reducible intro hb; exfalso; revert hb; simp [bne_self_eq_false]; done) | (with_reducible intro hb; exfalso; replace hb:=wHb hb; omega; done) | (with_reducible intro hb; replace hb:=wHb hb) | (refine wEx ?_) | (refine wRp ?_; refine fin_of (by simp only [push_cast,seval,bne_self_eq_false]; first | done | rfl) ob1 ?_) | (refine inblock_norm ?_)))
    refine wRg ?_
    refine awp_seq ?_
    refine awp_block ?_
    refine awp_loopP (α:=Nat) (st:=fun n=>⟨[(0,.d (.sl (f.map encNd))),(1,.d (.sl (p.map encCh))),(2,.d (.sl (T.map encR))),(6,.ptr 0 0 0),(10,.d (.int .i64 n))],[.cells [.d (.int .i64 0),.nil]]⟩)
      (inv:=fun n=>n≤T.length∧∀ i,i<n→posA t p (T.take (i+1))=true) (μ:=fun n=>T.length - n) (x0:=0) (r0:=[0]) ⟨Nat.zero_le _,fun i hi=>absurd hi (Nat.not_lt_zero i)⟩ ?_ ?_
    · exact wRen
    rintro n ⟨hn,hall⟩
    refine awp_seq ?_
    refine awp_seq ?_
    rcases Nat.lt_or_ge n T.length with hlt | hge
    rotate_left
    · obtain rfl:n=T.length:=by omega
      obtain ⟨e1,e2,e3⟩:=hyes hall
      rw [e1,e2,e3]
      have d1:decide ((T.length:Int)<(T.length:Int))=false:=decide_eq_false (by omega)
      refine awpF_region ?_; intro K hK; simp only [push_cast,seval,d1]
      refine wOb ?_
      refine CallK.pg (x0:=.d (.bool false)) (fun h=>by cases h) ?_
      simp only [push_cast,seval]
      refine wOb ?_
      refine hK _ ?_; clear hK K
      refine wCd ?_ ?_
      · intro h; cases h
      intro _
      refine wEx ?_
      refine awp_seq ?_
      refine awp_seq ?_
      refine awpF_region ?_; intro K hK; simp only [push_cast,seval,beq_self_eq_true]; refine wKk hK ?_; clear hK K
      refine wCd ?_ ?_
      · intro _
        refine awp_seq ?_
        refine wRg ?_
        refine wRet ?_
        exact DeepV.tups (DeepV.cons (DeepV.aggs (DeepV.cons (.dd _) (DeepV.cons .nil DeepV.nils))) (DeepV.cons (.dd _) (DeepV.cons (.dd _) DeepV.nils)))
      · intro h; cases h
    have k65n:=l65 n
    have tk:((T.map encR).take (n+1))=(T.take (n+1)).map encR:=(List.map_take).symm
    have wn1:IntKind.i64.wrap ((n:Int)+1)=(n:Int)+1:=wrapI _ (by omega)
    have tn1:((n:Int)+1).toNat=n+1:=by omega
    have d1:decide ((n:Int)<(T.length:Int))=true:=decide_eq_true (by omega)
    refine awp_regionF ?_; intro K hK
    refine from_X 10 rfl rfl ?_; simp only [push_cast,seval,d1]; refine wObW ?_
    refine OpX2.strp ?_
    simp only [push_cast,seval]
    refine OpX2.grd rfl ?_
    refine vc_X rfl ?_; simp only [push_cast,seval,List.drop_zero,Int.toNat_zero,Nat.sub_zero,wn1,tn1,tk,Int.toNat_natCast]; refine wObW ?_
    refine from_end ?_
    simp only [push_cast,seval]
    refine CallK.pg (fun _=>k65n) ?_; refine wXo ?_
    refine hK _ ?_; clear hK K
    cases hpn:posA t p (T.take (n+1)) with
    | true =>
      refine wCd ?_ ?_
      · intro _
        refine awp_skip ?_
        refine awp_block ?_
        refine wRg ?_
        refine inblock_norm ?_
        refine round_endG (n+1) [0] ⟨by omega,⟨hlt,fun i hi => ?_⟩,?_⟩
        · rcases Nat.lt_or_ge i n with h | h
          · exact hall i h
          · obtain rfl:i=n:=by omega
            exact hpn
        · push_cast
          exact wRen
      · intro h; cases h
    | false =>
      obtain ⟨e1,e2,e3⟩:=hnot n hlt hall hpn
      have hw0n:=hw0 n
      rw [e1,e2,e3]
      have hwsn:=hwst n
      have hwln:=hwl n
      have d7:((n:Int)==(T.length:Int))=false:=beq_eq_false_iff_ne.2 (by omega)
      refine wCd ?_ ?_
      · intro h; cases h
      intro _
      refine wEx ?_
      refine awp_seq ?_
      refine awp_seq ?_
      refine awpF_region ?_; intro K hK; simp only [push_cast,seval,d7]; refine wKk hK ?_; clear hK K
      refine wCd ?_ ?_
      · intro h; cases h
      intro _
      refine awp_skip ?_
      refine awp_seq ?_
      refine wRg ?_
      refine awp_seq ?_
      refine awp_seq ?_
      refine wRg ?_
      refine awp_virtJ 1 1 1 _ rfl rfl ?_
      simp only [List.set_cons_succ,List.set_cons_zero,List.cons_append,List.nil_append,List.length_cons,List.length_nil]
      refine awp_block ?_
      refine awp_loopP (α:=Nat) (st:=fun o=>⟨[(0,.d (.sl (f.map encNd))),(1,.d (.sl (p.map encCh))),(2,.d (.sl (T.map encR))),(6,.ptr 0 0 0),(10,.d (.int .i64 n)),(11,.ptr 1 0 0),(12,.d (.int .i64 o))],[.cells [.d (.int .i64 0),.nil],.cells [.d (.int .i64 n),.ref 2 0 (whoL t p T n o).length],.data 1 ((whoL t p T n o).map encI)]⟩)
        (inv:=fun o=>o≤4) (μ:=fun o=>4 - o) (x0:=0) (r0:=[0,1,2]) (Nat.zero_le _) ?_ ?_
      · simp only [hw0n]
        exact wRen
      intro o ho
      have hlo:=hwln o
      refine awp_seq ?_
      refine awp_seq ?_
      by_cases h0:n=0
      · have d1:decide ((n:Int) > 0)=false:=decide_eq_false (by omega)
        refine awpF_region ?_; intro K hK; simp only [push_cast,seval,d1]; refine wKk hK ?_; clear hK K
        refine wCd ?_ ?_
        · intro h; cases h
        intro _
        refine wEx ?_
        refine awp_seq ?_
        refine wRg ?_
        refine wRet ?_
        subst h0
        simp only [hw00]
        exact DeepV.tups (DeepV.cons (DeepV.aggs (DeepV.cons (.dd _) (DeepV.cons (DeepV.row rfl rfl) DeepV.nils))) (DeepV.cons (.dd _) (DeepV.cons (.dd _) DeepV.nils)))
      have d1:decide ((n:Int) > 0)=true:=decide_eq_true (by omega)
      by_cases h4:o<4
      · have d2:decide ((o:Int)≤3)=true:=decide_eq_true (by omega)
        have j67:=k67 n h0 hlt (o:Int)
        rw [← take_snoc hlt] at j67
        have hst:=hwsn o h0
        generalize keepA t p (T.take n) (T[n]?.getD []) (o:Int)=kb at *
        generalize whoL t p T n o=S at *
        generalize hS':whoL t p T n (o+1)=S' at *
        have tS:(S.map encI).take S.length=S.map encI:=List.take_of_length_le (by simp)
        refine awpF_region ?_; intro K hK; simp only [push_cast,seval,d1,d2]; refine wKk hK ?_; clear hK K
        refine wCd ?_ ?_
        · intro _
          refine awp_skip ?_
          refine awp_mid (fun u=>u=⟨[(0,.d (.sl (f.map encNd))),(1,.d (.sl (p.map encCh))),(2,.d (.sl (T.map encR))),(6,.ptr 0 0 0),(10,.d (.int .i64 n)),(11,.ptr 1 0 0),(12,.d (.int .i64 o))],[.cells [.d (.int .i64 0),.nil],.cells [.d (.int .i64 n),.ref 2 0 S'.length],.data 1 (S'.map encI)]⟩) ?_ ?_
          · refine awp_block ?_
            refine awp_seq ?_
            refine awpF_region ?_; intro K hK; simp only [push_cast,seval,List.drop_zero,Int.toNat_zero,Nat.sub_zero,wn1,tn1,tk,Int.toNat_natCast]
            refine wOb ?_
            refine CallK.pd (j67) ?_; refine wXo ?_
            refine hK _ ?_; clear hK K
            cases kb with
            | true =>
              rw [if_pos rfl] at hst
              refine wCd ?_ ?_
              · intro _
                refine awpF_region ?_; intro K hK; simp only [push_cast,seval,tS]; refine wKk hK ?_; clear hK K
                refine inblock_norm ?_
                refine mid_end [0,1,2] _ rfl ?_
                rw [hst]
                refine ⟨by simp,by simp,by simp [push_cast,seval,encI],by simp [push_cast,seval],by simp [push_cast,seval],by simp [push_cast,seval]⟩
              · intro h; cases h
            | false =>
              rw [if_neg (by decide),List.append_nil] at hst
              refine wCd ?_ ?_
              · intro h; cases h
              intro _
              refine awp_skip ?_
              refine inblock_norm ?_
              refine mid_end [0,1,2] _ rfl ?_
              rw [hst]
              exact wRen
          rintro _ rfl
          refine wRg ?_
          refine round_endG (o+1) [0,1,2] ⟨by omega,by omega,?_⟩
          simp only [hS']
          push_cast
          exact wRen
        · intro h; cases h
      · have d2:decide ((o:Int)≤3)=false:=decide_eq_false (by omega)
        obtain rfl:o=4:=by omega
        refine awpF_region ?_; intro K hK; simp only [push_cast,seval,d1,d2]; refine wKk hK ?_; clear hK K
        refine wCd ?_ ?_
        · intro h; cases h
        intro _
        refine wEx ?_
        refine awp_seq ?_
        refine wRg ?_
        refine wRet ?_
        exact DeepV.tups (DeepV.cons (DeepV.aggs (DeepV.cons (.dd _) (DeepV.cons (DeepV.row rfl (by simp)) DeepV.nils))) (DeepV.cons (.dd _) (DeepV.cons (.dd _) DeepV.nils)))
  · have e1:reL f p t T=false:=by rw [reL,decide_eq_false he,Bool.false_and]
    have e2:reAt f p t T=0:=by rw [reAt,e1]; rfl
    have e3:reWho f p t T=[]:=by rw [reWho,e1]; rfl
    have hb1:(reE f p t T != 0)=true:=by simpa using he
    rw [e1,e2,e3]
    generalize reE f p t T=e at *
    refine pdv_of (fn:=Tryz.f30) [.cell 6 56,.tmp 7,.tmp 8] (by kernel_rfl) rfl (by kernel_rfl) (Nat.le_of_ble_eq_true rfl) (by kernel_rfl) rfl ?_
    (repeat' (first | refine awp_seq ?_ | refine awp_skip ?_ | refine awp_block ?_ | ((first | (refine awpF_region ?_; intro K hK) | refine CallK.pd (h64) ?_ | refine CallK.pg (fun _=>h64) ?_); simp only [push_cast,seval,hb1]; refine wObW ?_) | (refine hK _ ?_; clear hK K) | (refine wCd ?_ ?_) | (with_reducible intro hb; exfalso; revert hb; simp [hb1]; done) | (with_reducible intro hb; exfalso; replace hb:=wHb hb; omega; done) | (with_reducible intro hb; replace hb:=wHb hb) | (refine wEx ?_) | (refine wRp ?_; refine fin_of (by simp only [push_cast,seval,hb1]; first | done | rfl) ob1 ?_) | (refine inblock_norm ?_)))
    exact DeepV.tups (DeepV.cons (DeepV.aggs (DeepV.cons (.dd _) (DeepV.cons .nil DeepV.nils))) (DeepV.cons (.dd _) (DeepV.cons (.dd _) DeepV.nils)))
end Go.Aw
