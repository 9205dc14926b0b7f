/-
  Who alone could have kept a rule,and when it was lost,on the program's side. Conditions: lengths that fit.
-/
import Derived.Test.YtlimahhonfckdaaGreatDoorPxY7
namespace Go.Aw
set_option linter.unusedSimpArgs false
set_option linter.unusedVariables false
open Go.RowKit Go.Proofs
set_option maxRecDepth 100000

set_option maxHeartbeats 2000000 in
theorem q97 {x:List D} {p:List Ch} {W:List (List Int)} {q r:List Int} {o:Int} {b:Bool} (hx:x.length=3) (hW:W.length≤1000000) (hpl:p.length≤1000) (hr:r.length=p.length) (hql:q.length=p.length)
    (h63:PD Tryz.prog 63 [.agg x,.sl (p.map encCh),.sl ((W++[r]).map encR)] (.d (.bool b))) :
    PD Tryz.prog 97 [.sl (r.map encI),.cp [.sl (p.map encCh)] 0,.cp [.int .i64 o] 0,.cp [.sl (q.map encI)] 0,.cp x 0,.cp [.sl (W.map encR)] 0] (.d (.bool (!(ownR p o r q&&b)))):=by
  have h94:=q94 W hW
  have hqp:∀ row,row∈p.map encCh→row.length=5:=fun row hr=>by obtain ⟨_,_,rfl⟩:=List.mem_map.1 hr; rfl
  have hqr:∀ row,row∈r.map encI→row.length=1:=fun row hr=>by obtain ⟨_,_,rfl⟩:=List.mem_map.1 hr; rfl
  have hqq:∀ row,row∈q.map encI→row.length=1:=fun row hr=>by obtain ⟨_,_,rfl⟩:=List.mem_map.1 hr; rfl
  match x,hx with
  | [x1,x2,x3],_ =>
  have happ:W.map encR++[[.sl (r.map encI)]]=(W++[r]).map encR:=by rw [List.map_append]; rfl
  have hlen:(W++[r]).length=W.length+1:=by rw [List.length_append]; rfl
  have tT:(W.map encR).take W.length=W.map encR:=List.take_of_length_le (by simp)
  generalize W++[r]=T' at *
  have tT':(T'.map encR).take (W.length+1)=T'.map encR:=List.take_of_length_le (by simp [hlen])
  refine pd_of (fn:=Tryz.f97) [.tmp 7] (by kernel_rfl) rfl (by kernel_rfl) (Nat.le_of_ble_eq_true rfl) (by kernel_rfl) rfl rfl ?_
  refine awp_seq ?_
  refine wRg ?_
  refine awp_seq ?_
  refine awp_seq ?_
  refine wRg ?_
  refine awp_block ?_
  refine awp_loopP (α:=Nat) (st:=fun k=>⟨[(0,.d (.sl (r.map encI))),(1,.d (.cp [.sl (p.map encCh)] 0)),(2,.d (.cp [.int .i64 o] 0)),(3,.d (.cp [.sl (q.map encI)] 0)),(4,.d (.cp [x1,x2,x3] 0)),(5,.d (.cp [.sl (W.map encR)] 0)),(10,.d (.sl (p.map encCh))),(11,.d (.int .i64 p.length)),(12,.d (.int .i64 k))],[]⟩)
    (inv:=fun k=>k≤p.length∧ownR p o r q=ownR (p.drop k) o (r.drop k) (q.drop k)) (μ:=fun k=>p.length - k) (x0:=0) (r0:=[]) ⟨Nat.zero_le _,by rw [List.drop_zero,List.drop_zero,List.drop_zero]⟩ ?_ ?_
  · exact wRen
  rintro k ⟨hk,he⟩
  refine awp_seq ?_
  refine wRg ?_
  refine awp_seq ?_
  refine wCd ?_ ?_
  · intro h1; replace h1:=wHb h1
    have hlt:k<p.length:=by omega
    obtain ⟨c,hc⟩ : ∃ c,p[k]? = some c:=⟨_,List.getElem?_eq_getElem hlt⟩
    obtain ⟨v,hv⟩ : ∃ v,r[k]? = some v:=⟨_,List.getElem?_eq_getElem (by omega)⟩
    obtain ⟨u,hu⟩ : ∃ u,q[k]? = some u:=⟨_,List.getElem?_eq_getElem (by omega)⟩
    have hst:=ownR_drop (o:=o) hc hv hu
    obtain ⟨ow,lo,hi',mn,mx⟩:=c
    dsimp only at hst
    refine awp_skip ?_
    refine awp_seq ?_
    refine awp_block ?_
    refine awp_seq ?_
    refine awpF_region ?_; intro K hK; simp only [push_cast,seval,hc,encCh,Int.toNat_natCast]; refine wKk hK ?_; clear hK K
    refine awp_seq ?_
    by_cases h2:ow=o
    · have d2:(ow != o)=false:=by rw [h2]; exact bne_self_eq_false o
      rw [decide_eq_true h2,Bool.true_or,Bool.true_and] at hst
      refine awpF_draw [0,1,2,3,4,5,6,7,8,9,10,11,12,13,14] (by kernel_rfl) (by kernel_rfl) rfl ?_; intro K hK; simp only [push_cast,seval,d2,hv,hu,encI,Int.toNat_natCast]
      refine wOb ?_
      refine hK _ ?_; clear hK K
      refine wCd ?_ ?_
      · intro h; cases h
      intro _
      refine awp_skip ?_
      refine inblock_norm ?_
      refine wRg ?_
      refine round_endG (k+1) [] ⟨by omega,⟨by omega,by rw [he,hst]⟩,?_⟩
      push_cast
      exact wRen
    · have d2:(ow != o)=true:=by simpa using h2
      rw [decide_eq_false h2,Bool.false_or] at hst
      refine awpF_draw [0,1,2,3,4,5,6,7,8,9,10,11,12,13,14] (by kernel_rfl) (by kernel_rfl) rfl ?_; intro K hK; simp only [push_cast,seval,d2,hv,hu,encI,Int.toNat_natCast]
      refine wOb ?_
      refine hK _ ?_; clear hK K
      by_cases h3:v=u
      · rw [decide_eq_true h3,Bool.true_and] at hst
        have d3:(v != u)=false:=by rw [h3]; exact bne_self_eq_false u
        rw [d3]
        refine wCd ?_ ?_
        · intro h; cases h
        intro _
        refine awp_skip ?_
        refine inblock_norm ?_
        refine wRg ?_
        refine round_endG (k+1) [] ⟨by omega,⟨by omega,by rw [he,hst]⟩,?_⟩
        push_cast
        exact wRen
      · rw [decide_eq_false h3,Bool.false_and] at hst
        have d3:(v != u)=true:=by simpa using h3
        rw [d3]
        refine wCd ?_ ?_
        · intro _
          refine awp_seq ?_
          refine wRg ?_
          refine wRet ?_
          rw [he,hst]
          rfl
        · intro h; cases h
  · intro h1; replace h1:=wHb h1
    obtain rfl:k=p.length:=by omega
    rw [ownR_end] at he
    rw [he,Bool.true_and]
    refine wEx ?_
    refine awp_seq ?_
    refine awpF_drawM [2,4] [] (DT.or (DT.op 0 (DT.or (DT.op 1 (DT.or (DT.op 3 (DT.op 5 (DT.op 6 (DT.op 7 (DT.op 8 (DT.op 9 DT.nil)))))) (DT.op 5 (DT.op 3 (DT.op 6 (DT.op 7 (DT.op 8 (DT.op 9 DT.nil)))))))) (DT.or (DT.op 3 (DT.or (DT.op 1 (DT.op 5 (DT.op 6 (DT.op 7 (DT.op 8 (DT.op 9 DT.nil)))))) (DT.op 5 (DT.or (DT.op 1 (DT.op 6 (DT.op 7 (DT.op 8 (DT.op 9 DT.nil))))) (DT.op 6 (DT.op 1 (DT.op 7 (DT.op 8 (DT.op 9 DT.nil))))))))) (DT.op 5 (DT.or (DT.op 1 (DT.op 3 (DT.op 6 (DT.op 7 (DT.op 8 (DT.op 9 DT.nil)))))) (DT.op 3 (DT.or (DT.op 1 (DT.op 6 (DT.op 7 (DT.op 8 (DT.op 9 DT.nil))))) (DT.op 6 (DT.op 1 (DT.op 7 (DT.op 8 (DT.op 9 DT.nil)))))))))))) (DT.or (DT.op 1 (DT.or (DT.op 0 (DT.or (DT.op 3 (DT.op 5 (DT.op 6 (DT.op 7 (DT.op 8 (DT.op 9 DT.nil)))))) (DT.op 5 (DT.op 3 (DT.op 6 (DT.op 7 (DT.op 8 (DT.op 9 DT.nil)))))))) (DT.or (DT.op 3 (DT.or (DT.op 0 (DT.op 5 (DT.op 6 (DT.op 7 (DT.op 8 (DT.op 9 DT.nil)))))) (DT.op 5 (DT.or (DT.op 0 (DT.op 6 (DT.op 7 (DT.op 8 (DT.op 9 DT.nil))))) (DT.op 6 (DT.op 0 (DT.op 7 (DT.op 8 (DT.op 9 DT.nil))))))))) (DT.op 5 (DT.or (DT.op 0 (DT.op 3 (DT.op 6 (DT.op 7 (DT.op 8 (DT.op 9 DT.nil)))))) (DT.op 3 (DT.or (DT.op 0 (DT.op 6 (DT.op 7 (DT.op 8 (DT.op 9 DT.nil))))) (DT.op 6 (DT.op 0 (DT.op 7 (DT.op 8 (DT.op 9 DT.nil)))))))))))) (DT.or (DT.op 3 (DT.or (DT.op 0 (DT.or (DT.op 1 (DT.op 5 (DT.op 6 (DT.op 7 (DT.op 8 (DT.op 9 DT.nil)))))) (DT.op 5 (DT.or (DT.op 1 (DT.op 6 (DT.op 7 (DT.op 8 (DT.op 9 DT.nil))))) (DT.op 6 (DT.op 1 (DT.op 7 (DT.op 8 (DT.op 9 DT.nil))))))))) (DT.or (DT.op 1 (DT.or (DT.op 0 (DT.op 5 (DT.op 6 (DT.op 7 (DT.op 8 (DT.op 9 DT.nil)))))) (DT.op 5 (DT.or (DT.op 0 (DT.op 6 (DT.op 7 (DT.op 8 (DT.op 9 DT.nil))))) (DT.op 6 (DT.op 0 (DT.op 7 (DT.op 8 (DT.op 9 DT.nil))))))))) (DT.op 5 (DT.or (DT.op 0 (DT.or (DT.op 1 (DT.op 6 (DT.op 7 (DT.op 8 (DT.op 9 DT.nil))))) (DT.op 6 (DT.op 1 (DT.op 7 (DT.op 8 (DT.op 9 DT.nil))))))) (DT.or (DT.op 1 (DT.or (DT.op 0 (DT.op 6 (DT.op 7 (DT.op 8 (DT.op 9 DT.nil))))) (DT.op 6 (DT.op 0 (DT.op 7 (DT.op 8 (DT.op 9 DT.nil))))))) (DT.op 6 (DT.op 0 (DT.op 1 (DT.op 7 (DT.op 8 (DT.op 9 DT.nil)))))))))))) (DT.op 5 (DT.or (DT.op 0 (DT.or (DT.op 1 (DT.op 3 (DT.op 6 (DT.op 7 (DT.op 8 (DT.op 9 DT.nil)))))) (DT.op 3 (DT.or (DT.op 1 (DT.op 6 (DT.op 7 (DT.op 8 (DT.op 9 DT.nil))))) (DT.op 6 (DT.op 1 (DT.op 7 (DT.op 8 (DT.op 9 DT.nil))))))))) (DT.or (DT.op 1 (DT.or (DT.op 0 (DT.op 3 (DT.op 6 (DT.op 7 (DT.op 8 (DT.op 9 DT.nil)))))) (DT.op 3 (DT.or (DT.op 0 (DT.op 6 (DT.op 7 (DT.op 8 (DT.op 9 DT.nil))))) (DT.op 6 (DT.op 0 (DT.op 7 (DT.op 8 (DT.op 9 DT.nil))))))))) (DT.op 3 (DT.or (DT.op 0 (DT.or (DT.op 1 (DT.op 6 (DT.op 7 (DT.op 8 (DT.op 9 DT.nil))))) (DT.op 6 (DT.op 1 (DT.op 7 (DT.op 8 (DT.op 9 DT.nil))))))) (DT.or (DT.op 1 (DT.or (DT.op 0 (DT.op 6 (DT.op 7 (DT.op 8 (DT.op 9 DT.nil))))) (DT.op 6 (DT.op 0 (DT.op 7 (DT.op 8 (DT.op 9 DT.nil))))))) (DT.op 6 (DT.op 0 (DT.op 1 (DT.op 7 (DT.op 8 (DT.op 9 DT.nil))))))))))))))) (by kernel_rfl) (by kernel_rfl) (by kernel_rfl) ?_; intro K hK; simp only [push_cast,seval,tT,happ]
    repeat' (first
      | (with_reducible refine And.intro ?_ ?_)
      | (refine CallK.rel h94 ?_; rintro _ _ ⟨rfl,rfl⟩; simp only [push_cast,seval,tT,happ,tT'])
      | (refine CallK.pd h63 ?_; simp only [push_cast,seval])
      | exact ob1
      | fail)
    all_goals (refine hK _ ?_; refine wRet ?_; rfl)
set_option maxHeartbeats 2000000 in
theorem q66 {f:List Nd} {P:List (Nat × Nat)} {Q:List Int} {t:Fm} {p:List Ch} (hf:f.length≤1000) (hwf:t.wf) (hft:f=t.flat) (hok2:FmOk f P Q) (hn:∀ n,n∈f→nodeE n p.length=0) (hp:plE p=0) (hz:t.hz≤60)
    (W:List (List Int)) (q:List Int) (o:Int) (hW:W≠[]) (hWl:W.length≤399) (htr:trE (W++[q]) p.length=0) :
    PD Tryz.prog 66 [.agg [.sl (f.map encNd),.sl (P.map encP2),.sl (Q.map encH)],.sl (p.map encCh),.sl ((W++[q]).map encR),.int .i64 o] (.d (.bool (keepA t p W q o))):=by
  obtain ⟨hp1,hp2,hpok,hp9⟩:=pl_ok hp
  obtain ⟨_,_,hlT,hrows⟩:=tr_facts htr
  have hlast:=hrows _ (List.mem_append_left [q] (last_mem hW))
  have hql:=hrows q (by simp)
  have hlg:=last_get hW
  have hWl1:=List.length_pos_iff.2 hW
  have h54:PD Tryz.prog 74 [.sl (p.map encCh),.sl ((W.getLastD []).map encI),.fn (.func 97) [.cp [.sl (p.map encCh)] 0,.cp [.int .i64 o] 0,.cp [.sl (q.map encI)] 0,.cp [.sl (f.map encNd),.sl (P.map encP2),.sl (Q.map encH)] 0,.cp [.sl (W.map encR)] 0]] (.d (.bool ((folV p (W.getLastD [])).all fun r => !(ownR p o r q&&posA t p (W++[r]))))) :=
    p54p p (W.getLastD []) 97 _ _ hp (by omega) hlast.2 fun r hr=>by
      have hr2:=folV_row p _ hpok (by omega) r hr
      refine q97 rfl (by omega) (by omega) (by omega) (by omega) (pos_all hf hwf hft hok2 hn hp hz _ (W++[r]) (Nat.le_refl _) (by simp) (tr_of (by omega) (by rw [List.length_append,List.length_singleton]; omega) fun s hs => ?_))
      rcases List.mem_append.1 hs with hs | hs
      · exact hrows s (List.mem_append_left _ hs)
      · obtain rfl:=List.mem_singleton.1 hs
        exact ⟨by omega,hr2.2⟩
  have hall:((folV p (W.getLastD [])).all fun r => !(ownR p o r q&&posA t p (W++[r]))) = !keepA t p W q o:=by
    rw [keepA,List.not_any_eq_all_not]
  rw [hall] at h54
  have hqt:∀ row,row∈(W++[q]).map encR→row.length=1:=fun row hr=>by obtain ⟨_,_,rfl⟩:=List.mem_map.1 hr; rfl
  have hqw:∀ row,row∈W.map encR→row.length=1:=fun row hr=>by obtain ⟨_,_,rfl⟩:=List.mem_map.1 hr; rfl
  have hw1:IntKind.i64.wrap ((W.length:Int) - 1)=((W.length - 1:Nat) : Int):=by rw [wrapI _ (by omega)]; omega
  have hww:IntKind.i64.wrap (W.length:Int)=(W.length:Int):=wrapI _ (by omega)
  have hTl:(W++[q]).length=W.length+1:=by rw [List.length_append]; rfl
  have htk:((W++[q]).map encR).take W.length=W.map encR:=by rw [← List.map_take,List.take_left' rfl]
  have hgt:(W++[q])[W.length]? = some q:=by rw [List.getElem?_append_right (Nat.le_refl _),Nat.sub_self]; rfl
  generalize W.getLastD []=L at *
  generalize keepA t p W q o=b at *
  generalize W++[q]=T at *
  refine pd_of (fn:=Tryz.f66) [.tmp 8] (by kernel_rfl) rfl (by kernel_rfl) (Nat.le_of_ble_eq_true rfl) (by kernel_rfl) rfl rfl ?_
  refine awp_seq ?_
  refine wRg ?_
  refine awp_mid (fun u=>u=⟨[(4,.ptr 0 0 0),(5,.ptr 1 0 0),(7,.ptr 2 0 0),(9,.ptr 3 0 0),(10,.ptr 4 0 0)],[.cells [.d (.sl (f.map encNd)),.d (.sl (P.map encP2)),.d (.sl (Q.map encH))],.cells [.d (.sl (p.map encCh))],.cells [.d (.int .i64 o)],.cells [.d (.sl (W.map encR))],.cells [.d (.sl (q.map encI))]]⟩) ?_ ?_
  · refine awpF_drawM [0,1,2,3,4,5,6] [] (DT.or (DT.op 7 (DT.or (DT.op 8 (DT.or (DT.op 9 (DT.or (DT.op 10 (DT.or (DT.op 11 (DT.op 12 (DT.op 13 (DT.op 14 DT.nil)))) (DT.op 12 (DT.op 11 (DT.op 13 (DT.op 14 DT.nil)))))) (DT.or (DT.op 11 (DT.or (DT.op 10 (DT.op 12 (DT.op 13 (DT.op 14 DT.nil)))) (DT.op 12 (DT.or (DT.op 10 (DT.op 13 (DT.op 14 DT.nil))) (DT.op 13 (DT.op 10 (DT.op 14 DT.nil))))))) (DT.op 12 (DT.or (DT.op 10 (DT.op 11 (DT.op 13 (DT.op 14 DT.nil)))) (DT.op 11 (DT.or (DT.op 10 (DT.op 13 (DT.op 14 DT.nil))) (DT.op 13 (DT.op 10 (DT.op 14 DT.nil)))))))))) (DT.or (DT.op 11 (DT.or (DT.op 9 (DT.or (DT.op 10 (DT.op 12 (DT.op 13 (DT.op 14 DT.nil)))) (DT.op 12 (DT.or (DT.op 10 (DT.op 13 (DT.op 14 DT.nil))) (DT.op 13 (DT.op 10 (DT.op 14 DT.nil))))))) (DT.op 12 (DT.or (DT.op 9 (DT.or (DT.op 10 (DT.op 13 (DT.op 14 DT.nil))) (DT.op 13 (DT.op 10 (DT.op 14 DT.nil))))) (DT.op 13 (DT.op 9 (DT.op 10 (DT.op 14 DT.nil)))))))) (DT.op 12 (DT.or (DT.op 9 (DT.or (DT.op 10 (DT.op 11 (DT.op 13 (DT.op 14 DT.nil)))) (DT.op 11 (DT.or (DT.op 10 (DT.op 13 (DT.op 14 DT.nil))) (DT.op 13 (DT.op 10 (DT.op 14 DT.nil))))))) (DT.op 11 (DT.or (DT.op 9 (DT.or (DT.op 10 (DT.op 13 (DT.op 14 DT.nil))) (DT.op 13 (DT.op 10 (DT.op 14 DT.nil))))) (DT.op 13 (DT.op 9 (DT.op 10 (DT.op 14 DT.nil))))))))))) (DT.or (DT.op 11 (DT.or (DT.op 8 (DT.or (DT.op 9 (DT.or (DT.op 10 (DT.op 12 (DT.op 13 (DT.op 14 DT.nil)))) (DT.op 12 (DT.or (DT.op 10 (DT.op 13 (DT.op 14 DT.nil))) (DT.op 13 (DT.op 10 (DT.op 14 DT.nil))))))) (DT.op 12 (DT.or (DT.op 9 (DT.or (DT.op 10 (DT.op 13 (DT.op 14 DT.nil))) (DT.op 13 (DT.op 10 (DT.op 14 DT.nil))))) (DT.op 13 (DT.op 9 (DT.op 10 (DT.op 14 DT.nil)))))))) (DT.op 12 (DT.or (DT.op 8 (DT.or (DT.op 9 (DT.or (DT.op 10 (DT.op 13 (DT.op 14 DT.nil))) (DT.op 13 (DT.op 10 (DT.op 14 DT.nil))))) (DT.op 13 (DT.op 9 (DT.op 10 (DT.op 14 DT.nil)))))) (DT.op 13 (DT.op 8 (DT.op 9 (DT.op 10 (DT.op 14 DT.nil))))))))) (DT.op 12 (DT.or (DT.op 8 (DT.or (DT.op 9 (DT.or (DT.op 10 (DT.op 11 (DT.op 13 (DT.op 14 DT.nil)))) (DT.op 11 (DT.or (DT.op 10 (DT.op 13 (DT.op 14 DT.nil))) (DT.op 13 (DT.op 10 (DT.op 14 DT.nil))))))) (DT.op 11 (DT.or (DT.op 9 (DT.or (DT.op 10 (DT.op 13 (DT.op 14 DT.nil))) (DT.op 13 (DT.op 10 (DT.op 14 DT.nil))))) (DT.op 13 (DT.op 9 (DT.op 10 (DT.op 14 DT.nil)))))))) (DT.op 11 (DT.or (DT.op 8 (DT.or (DT.op 9 (DT.or (DT.op 10 (DT.op 13 (DT.op 14 DT.nil))) (DT.op 13 (DT.op 10 (DT.op 14 DT.nil))))) (DT.op 13 (DT.op 9 (DT.op 10 (DT.op 14 DT.nil)))))) (DT.op 13 (DT.op 8 (DT.op 9 (DT.op 10 (DT.op 14 DT.nil)))))))))))) (DT.or (DT.op 11 (DT.or (DT.op 7 (DT.or (DT.op 8 (DT.or (DT.op 9 (DT.or (DT.op 10 (DT.op 12 (DT.op 13 (DT.op 14 DT.nil)))) (DT.op 12 (DT.or (DT.op 10 (DT.op 13 (DT.op 14 DT.nil))) (DT.op 13 (DT.op 10 (DT.op 14 DT.nil))))))) (DT.op 12 (DT.or (DT.op 9 (DT.or (DT.op 10 (DT.op 13 (DT.op 14 DT.nil))) (DT.op 13 (DT.op 10 (DT.op 14 DT.nil))))) (DT.op 13 (DT.op 9 (DT.op 10 (DT.op 14 DT.nil)))))))) (DT.op 12 (DT.or (DT.op 8 (DT.or (DT.op 9 (DT.or (DT.op 10 (DT.op 13 (DT.op 14 DT.nil))) (DT.op 13 (DT.op 10 (DT.op 14 DT.nil))))) (DT.op 13 (DT.op 9 (DT.op 10 (DT.op 14 DT.nil)))))) (DT.op 13 (DT.op 8 (DT.op 9 (DT.op 10 (DT.op 14 DT.nil))))))))) (DT.op 12 (DT.or (DT.op 7 (DT.or (DT.op 8 (DT.or (DT.op 9 (DT.or (DT.op 10 (DT.op 13 (DT.op 14 DT.nil))) (DT.op 13 (DT.op 10 (DT.op 14 DT.nil))))) (DT.op 13 (DT.op 9 (DT.op 10 (DT.op 14 DT.nil)))))) (DT.op 13 (DT.op 8 (DT.op 9 (DT.op 10 (DT.op 14 DT.nil))))))) (DT.op 13 (DT.op 7 (DT.op 8 (DT.op 9 (DT.op 10 (DT.op 14 DT.nil)))))))))) (DT.op 12 (DT.or (DT.op 7 (DT.or (DT.op 8 (DT.or (DT.op 9 (DT.or (DT.op 10 (DT.op 11 (DT.op 13 (DT.op 14 DT.nil)))) (DT.op 11 (DT.or (DT.op 10 (DT.op 13 (DT.op 14 DT.nil))) (DT.op 13 (DT.op 10 (DT.op 14 DT.nil))))))) (DT.op 11 (DT.or (DT.op 9 (DT.or (DT.op 10 (DT.op 13 (DT.op 14 DT.nil))) (DT.op 13 (DT.op 10 (DT.op 14 DT.nil))))) (DT.op 13 (DT.op 9 (DT.op 10 (DT.op 14 DT.nil)))))))) (DT.op 11 (DT.or (DT.op 8 (DT.or (DT.op 9 (DT.or (DT.op 10 (DT.op 13 (DT.op 14 DT.nil))) (DT.op 13 (DT.op 10 (DT.op 14 DT.nil))))) (DT.op 13 (DT.op 9 (DT.op 10 (DT.op 14 DT.nil)))))) (DT.op 13 (DT.op 8 (DT.op 9 (DT.op 10 (DT.op 14 DT.nil))))))))) (DT.op 11 (DT.or (DT.op 7 (DT.or (DT.op 8 (DT.or (DT.op 9 (DT.or (DT.op 10 (DT.op 13 (DT.op 14 DT.nil))) (DT.op 13 (DT.op 10 (DT.op 14 DT.nil))))) (DT.op 13 (DT.op 9 (DT.op 10 (DT.op 14 DT.nil)))))) (DT.op 13 (DT.op 8 (DT.op 9 (DT.op 10 (DT.op 14 DT.nil))))))) (DT.op 13 (DT.op 7 (DT.op 8 (DT.op 9 (DT.op 10 (DT.op 14 DT.nil)))))))))))) (by kernel_rfl) (by kernel_rfl) (by kernel_rfl) ?_; intro K hK; simp only [push_cast,seval,hTl,Int.add_sub_cancel,hww,Int.toNat_natCast,htk,hgt,encR,List.drop_zero,Int.toNat_zero,Nat.sub_zero]
    repeat' (first
      | (with_reducible refine And.intro ?_ ?_)
      | exact ob1
      | fail)
    all_goals (refine hK _ ?_; first | (refine mid_end [0,1,2,3,4] _ rfl ?_; refine ⟨?_,?_,?_,?_,?_,?_⟩ <;> (simp [push_cast,seval]; done)) | (refine mid_end [0,1,2,4,3] _ rfl ?_; refine ⟨?_,?_,?_,?_,?_,?_⟩ <;> (simp [push_cast,seval]; done)))
  rintro _ rfl
  refine awp_fz (.ptr 0 0 0) ?_
  simp only [push_cast,seval,St.fz,St.frz]
  refine awp_fz (.ptr 1 0 0) ?_
  simp only [push_cast,seval,St.fz,St.frz]
  refine awp_fz (.ptr 2 0 0) ?_
  simp only [push_cast,seval,St.fz,St.frz]
  refine awp_fz (.ptr 3 0 0) ?_
  simp only [push_cast,seval,St.fz,St.frz]
  refine awp_fz (.ptr 4 0 0) ?_
  simp only [push_cast,seval,St.fz,St.frz]
  refine awp_seq ?_
  refine awpF_draw [0,1,2,3,4,5,6,7,8,9,10] (by kernel_rfl) (by kernel_rfl) rfl ?_; intro K hK; simp only [push_cast,seval,hw1,Int.toNat_natCast,hlg,encR]
  refine wOb ?_
  refine CallK.pd (h54) ?_; refine wXo ?_
  refine hK _ ?_; clear hK K
  refine wRet ?_
  cases b <;> rfl
end Go.Aw
