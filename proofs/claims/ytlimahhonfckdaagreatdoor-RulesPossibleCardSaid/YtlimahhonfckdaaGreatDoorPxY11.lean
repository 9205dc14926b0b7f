/-
  What is possible,on the reference's side. Conditions: a valid formula,plant and trace.
-/
import Derived.Test.YtlimahhonfckdaaGreatDoorPxY10
namespace Go.Aw
set_option linter.unusedSimpArgs false
set_option linter.unusedVariables false
open Go.RowKit Go.Proofs
set_option maxRecDepth 100000

set_option maxHeartbeats 4000000 in
theorem rpos_one {f:List Nd} {t:Fm} {p:List Ch} (hf:f.length≤1000) (hwf:t.wf) (hft:f=t.flat) (hn:∀ n,n∈f→nodeE n p.length=0) (hp:plE p=0)
    (T:List (List Int)) (hT:T≠[]) (htr:trE T p.length=0)
    (hrec:vd t T 0=2→∀ r,r∈folV p (T.getLastD [])→PD Tryz.prog 65 [.sl (f.map encNd),.sl (p.map encCh),.sl ((T++[r]).map encR)] (.d (.bool (posA t p (T++[r]))))) :
    PD Tryz.prog 65 [.sl (f.map encNd),.sl (p.map encCh),.sl (T.map encR)] (.d (.bool (posA t p T))):=by
  have hno:∀ n,n∈f→okN n:=fun n h=>okN_of (hn n h)
  have hno2:∀ n,n∈t.flat→okN n:=fun n h=>hno n (by rw [hft]; exact h)
  obtain ⟨hp1,hp2,hpok,hp9⟩:=pl_ok hp
  obtain ⟨_,_,hlT,hrows⟩:=tr_facts htr
  have hlast:=hrows _ (last_mem hT)
  have hlg:=last_get hT
  have hTl:=List.length_pos_iff.2 hT
  have h52:=p52 f T t ⟨hwf,by rw [List.drop_zero,Nat.zero_add,← hft,List.drop_length,List.append_nil]⟩ (by rw [hft]) (by omega) (by omega) hno (fun n h h2=>cols_of (hn n h) h2 htr)
  have hvr:=vdRow_get T t 0
  rw [Nat.zero_min] at hvr
  have hvl:=vdRow_len T t
  have h56:=p56 p (T.getLastD []) hp (by omega) hlast.2
  have h9:=(folV_len (row:=T.getLastD []) hp (by omega)).2
  have hyes:=pos_yes (t:=t) (p:=p) (k:=t.hz.toNat+1 - T.length) (T:=T)
  have hnoo:=pos_no (t:=t) (p:=p) (k:=t.hz.toNat+1 - T.length) (T:=T)
  have hopen:=posA_step (t:=t) (p:=p) (T:=T) hwf hno2
  have hv:=vd_le t T 0
  have hq:∀ row,row∈T.map encR→row.length=1:=fun row hr=>by obtain ⟨_,_,rfl⟩:=List.mem_map.1 hr; rfl
  have hq2:∀ row,row∈T.map encR→row.length=1∧row.all D.leaf=true:=fun r h=>encR_row h
  have hw1:IntKind.i64.wrap ((T.length:Int) - 1)=((T.length - 1:Nat) : Int):=by rw [wrapI _ (by omega)]; omega
  have tT:(T.map encR).take T.length=T.map encR:=List.take_of_length_le (by simp)
  rw [show posV t p (t.hz.toNat+1 - T.length) T=posA t p T from rfl] at hyes hnoo
  generalize T.getLastD []=Lr at *
  generalize posA t p T=pv at *
  generalize vd t T 0=v at *
  generalize folV p Lr=L at *
  have hqL:∀ row,row∈L.map encR→row.length=1:=fun row hr=>by obtain ⟨_,_,rfl⟩:=List.mem_map.1 hr; rfl
  have hqv:∀ row,row∈(vdRow T t).map encI→row.length=1:=fun row hr=>by obtain ⟨_,_,rfl⟩:=List.mem_map.1 hr; rfl
  refine pd_of (fn:=Tryz.f65) [.tmp 6] (by kernel_rfl) rfl (by kernel_rfl) (Nat.le_of_ble_eq_true rfl) (by kernel_rfl) rfl rfl ?_
  refine awp_seq ?_
  refine wRg ?_
  refine awp_seq ?_
  refine awpF_region ?_; intro K hK; simp only [push_cast,seval]
  refine wOb ?_
  refine CallK.pd (h52) ?_; refine wXo ?_
  simp only [push_cast,seval,hvr,encI,Int.toNat_zero]
  refine wOb ?_
  refine hK _ ?_; clear hK K
  refine awp_seq ?_
  refine awp_seq ?_
  refine wRg ?_
  rcases show v=0∨v=1∨v=2 by omega with rfl | rfl | rfl
  · rw [hnoo rfl]
    refine wCd ?_ ?_
    · intro _
      refine awp_seq ?_
      refine wRg ?_
      refine wRet ?_
      rfl
    · intro h; cases h
  · rw [hyes rfl]
    refine wCd ?_ ?_
    · intro _
      refine awp_seq ?_
      refine wRg ?_
      refine wRet ?_
      rfl
    · intro h; cases h
  rw [hopen rfl]
  have hrec:=hrec rfl
  refine wCd ?_ ?_
  · intro h; cases h
  intro _
  refine awp_skip ?_
  refine awp_seq ?_
  refine awpF_region ?_; intro K hK; simp only [push_cast,seval,hw1,Int.toNat_natCast,hlg,encR]
  refine wOb ?_
  refine CallK.pd (h56) ?_; refine wXo ?_
  refine hK _ ?_; clear hK K
  refine awp_seq ?_
  refine awp_seq ?_
  refine wRg ?_
  refine awp_block ?_
  refine awp_loopP (α:=Nat) (st:=fun i=>⟨[(0,.d (.sl (f.map encNd))),(1,.d (.sl (p.map encCh))),(2,.d (.sl (T.map encR))),(8,.d (.sl (L.map encR))),(9,.d (.int .i64 i))],[]⟩)
    (inv:=fun i=>i≤L.length∧∀ r,r∈L.take i→posA t p (T++[r])=false) (μ:=fun i=>L.length - i) (x0:=0) (r0:=[]) ⟨Nat.zero_le _,by simp⟩ ?_ ?_
  · exact wRen
  rintro i ⟨hi,hall⟩
  refine awp_seq ?_
  refine awp_seq ?_
  refine wRg ?_
  refine wCd ?_ ?_
  · intro h1; replace h1:=wHb h1
    have hlt:i<L.length:=by omega
    obtain ⟨r,hr⟩ : ∃ r,L[i]? = some r:=⟨_,List.getElem?_eq_getElem hlt⟩
    have hrm:=List.mem_of_getElem? hr
    have ih:=hrec r hrm
    have hyy:posA t p (T++[r])=true→(L.any fun r=>posA t p (T++[r]))=true:=fun h=>List.any_eq_true.2 ⟨r,hrm,h⟩
    have happ:T.map encR++[[.sl (r.map encI)]]=(T++[r]).map encR:=by rw [List.map_append]; rfl
    have hlen:(T++[r]).length=T.length+1:=by rw [List.length_append]; rfl
    generalize hpr:posA t p (T++[r])=b at *
    generalize hT':T++[r]=T' at *
    have tT':(T'.map encR).take (T.length+1)=T'.map encR:=List.take_of_length_le (by simp [hlen])
    refine awp_skip ?_
    refine awp_seq ?_
    refine awp_block ?_
    refine awp_mid (fun u=>u=⟨[(0,.d (.sl (f.map encNd))),(1,.d (.sl (p.map encCh))),(2,.d (.sl (T.map encR))),(8,.d (.sl (L.map encR))),(9,.d (.int .i64 i)),(44,.d (.bool b))],[]⟩) ?_ ?_
    · refine awpF_drawM [0,1,3,5,6,7] [] (DT.or (DT.op 2 (DT.or (DT.op 4 (DT.op 8 (DT.op 9 (DT.op 10 (DT.op 11 DT.nil))))) (DT.op 8 (DT.or (DT.op 4 (DT.op 9 (DT.op 10 (DT.op 11 DT.nil)))) (DT.op 9 (DT.op 4 (DT.op 10 (DT.op 11 DT.nil)))))))) (DT.op 8 (DT.or (DT.op 2 (DT.or (DT.op 4 (DT.op 9 (DT.op 10 (DT.op 11 DT.nil)))) (DT.op 9 (DT.op 4 (DT.op 10 (DT.op 11 DT.nil)))))) (DT.op 9 (DT.op 2 (DT.op 4 (DT.op 10 (DT.op 11 DT.nil)))))))) (by kernel_rfl) (by kernel_rfl) (by kernel_rfl) ?_; intro K hK; simp only [push_cast,seval,tT,hr,encR,Int.toNat_natCast,happ,tT']
      repeat' (first
        | (with_reducible refine And.intro ?_ ?_)
        | (refine CallK.pd ih ?_; simp only [push_cast,seval])
        | exact ob1
        | fail)
      all_goals (refine hK _ ?_; refine mid_end [] _ rfl ?_; exact wRen)
    rintro _ rfl
    cases b with
    | true =>
      rw [hyy rfl]
      refine wCd ?_ ?_
      · intro _
        refine awp_seq ?_
        refine wRg ?_
        refine wRet ?_
        rfl
      · intro h; cases h
    | false =>
      refine wCd ?_ ?_
      · intro h; cases h
      intro _
      refine awp_skip ?_
      refine inblock_norm ?_
      refine wRg ?_
      refine round_endG (i+1) [] ⟨by omega,⟨by omega,fun q hq => ?_⟩,?_⟩
      · rw [List.take_add_one,hr] at hq
        simp only [Option.toList_some,List.mem_append,List.mem_singleton] at hq
        rcases hq with hq | rfl
        · exact hall q hq
        · rw [hT']
          exact hpr
      · push_cast
        exact wRen
  · intro h1; replace h1:=wHb h1
    obtain rfl:i=L.length:=by omega
    rw [List.take_length] at hall
    have hnone:(L.any fun r=>posA t p (T++[r]))=false:=by
      rw [List.any_eq_false]
      intro r hr
      rw [hall r hr]
      decide
    rw [hnone]
    refine wEx ?_
    refine awp_seq ?_
    refine wRg ?_
    refine wRet ?_
    rfl
theorem rpos_all {f:List Nd} {t:Fm} {p:List Ch} (hf:f.length≤1000) (hwf:t.wf) (hft:f=t.flat) (hn:∀ n,n∈f→nodeE n p.length=0) (hp:plE p=0) (hz:t.hz≤60) :
    ∀ (k:Nat) (T:List (List Int)),t.hz.toNat+1 - T.length≤k→T≠[]→trE T p.length=0 →
    PD Tryz.prog 65 [.sl (f.map encNd),.sl (p.map encCh),.sl (T.map encR)] (.d (.bool (posA t p T))):=by
  have hno2:∀ n,n∈t.flat→okN n:=fun n h=>okN_of (hn n (by rw [hft]; exact h))
  have hz0:=(hz_bd t hwf hno2).1
  obtain ⟨hp1,hp2,hpok,hp9⟩:=pl_ok hp
  intro k
  induction k with
  | zero =>
    intro T hk hT htr
    exact rpos_one hf hwf hft hn hp T hT htr fun h2=>absurd h2 (vd_dec t T 0 hwf hno2 (by omega))
  | succ k ih =>
    intro T hk hT htr
    refine rpos_one hf hwf hft hn hp T hT htr fun h2 r hr => ?_
    have hlt:T.length≤60:=by
      rcases Nat.lt_or_ge 60 T.length with h | h
      · exact absurd h2 (vd_dec t T 0 hwf hno2 (by omega))
      · exact h
    obtain ⟨_,_,hlT,hrows⟩:=tr_facts htr
    have hlast:=hrows _ (last_mem hT)
    have hr2:=folV_row p _ hpok (by omega) r hr
    refine ih (T++[r]) (by rw [List.length_append,List.length_singleton]; omega) (by simp) (tr_of (by omega) (by rw [List.length_append,List.length_singleton]; omega) fun q hq => ?_)
    rcases List.mem_append.1 hq with hq | hq
    · exact hrows q hq
    · obtain rfl:=List.mem_singleton.1 hq
      exact ⟨by omega,hr2.2⟩
theorem q28 (f:List Nd) (p:List Ch) (t:Fm) (T:List (List Int)) (hf:f.length≤1000000) (hpl:p.length≤1000000) (hTl:T.length≤1000000) (ht:shE f p.length=0→t.wf∧f=t.flat) :
    PD Tryz.prog 28 [.sl (f.map encNd),.sl (p.map encCh),.sl (T.map encR)] (.tup [.d (.bool (psB f p t T)),.d (.int .i64 (reE f p t T))]):=by
  have h64:=q64 f p t T hf hpl hTl ht
  by_cases he:reE f p t T=0
  · obtain ⟨hp,hc,htr,hT,_,_⟩:=re_facts he
    obtain ⟨t1,t2⟩:=ht (chk_sh hc)
    obtain ⟨hf40,hno,_⟩:=sh_facts (chk_sh hc)
    have e1:psB f p t T=posA t p T:=by rw [psB,decide_eq_true he,Bool.true_and]
    have h65:=rpos_all (by omega) t1 t2 (firstE_mem (chk_sh hc)) hp (chk_hz hc) _ T (Nat.le_refl _) hT htr
    rw [e1,he]
    rw [he] at h64
    generalize posA t p T=b at *
    refine pd_of (fn:=Tryz.f28) [.tmp 6,.tmp 7] (by kernel_rfl) rfl (by kernel_rfl) (Nat.le_of_ble_eq_true rfl) (by kernel_rfl) rfl rfl ?_
    (repeat' (first | refine awp_seq ?_ | refine awp_skip ?_ | refine awp_block ?_ | ((first | (refine awpF_region ?_; intro K hK) | refine CallK.pd (h64) ?_ | refine CallK.pg (fun _=>h64) ?_ | refine CallK.pd (h65) ?_ | refine CallK.pg (fun _=>h65) ?_); simp only [push_cast,seval,bne_self_eq_false]; refine wObW ?_) | (refine hK _ ?_; clear hK K) | (refine wCd ?_ ?_) | (with_reducible intro hb; exfalso; revert hb; simp [bne_self_eq_false]; done) | (with_reducible intro hb; exfalso; replace hb:=wHb hb; omega; done) | (with_reducible intro hb; replace hb:=wHb hb) | (refine wEx ?_) | (refine wRp ?_; refine fin_of (by simp only [push_cast,seval,bne_self_eq_false]; first | done | rfl) ob1 ?_) | (refine inblock_norm ?_)))
    rfl
  · have e1:psB f p t T=false:=by rw [psB,decide_eq_false he,Bool.false_and]
    have hb1:(reE f p t T != 0)=true:=by simpa using he
    rw [e1]
    generalize reE f p t T=e at *
    refine pd_of (fn:=Tryz.f28) [.tmp 6,.tmp 7] (by kernel_rfl) rfl (by kernel_rfl) (Nat.le_of_ble_eq_true rfl) (by kernel_rfl) rfl rfl ?_
    (repeat' (first | refine awp_seq ?_ | refine awp_skip ?_ | refine awp_block ?_ | ((first | (refine awpF_region ?_; intro K hK) | refine CallK.pd (h64) ?_ | refine CallK.pg (fun _=>h64) ?_); simp only [push_cast,seval,hb1]; refine wObW ?_) | (refine hK _ ?_; clear hK K) | (refine wCd ?_ ?_) | (with_reducible intro hb; exfalso; revert hb; simp [hb1]; done) | (with_reducible intro hb; exfalso; replace hb:=wHb hb; omega; done) | (with_reducible intro hb; replace hb:=wHb hb) | (refine wEx ?_) | (refine wRp ?_; refine fin_of (by simp only [push_cast,seval,hb1]; first | done | rfl) ob1 ?_) | (refine inblock_norm ?_)))
    rfl
end Go.Aw
