/-
  What is possible,on the program's side. Conditions: a valid formula,plant and trace.
-/
import Derived.Test.YtlimahhonfckdaaGreatDoorPxY5
import Derived.Test.YtlimahhonfckdaaGreatDoorPxV12
namespace Go.Aw
set_option linter.unusedSimpArgs false
set_option linter.unusedVariables false
open Go.RowKit Go.Proofs
set_option maxRecDepth 100000

theorem q93 {x:List D} {p:List Ch} {T:List (List Int)} {r:List Int} {b:Bool} (hx:x.length=3) (hT:T.length≤1000000) (h63:PD Tryz.prog 63 [.agg x,.sl (p.map encCh),.sl ((T++[r]).map encR)] (.d (.bool b))) :
    PD Tryz.prog 93 [.sl (r.map encI),.cp x 0,.cp [.sl (p.map encCh)] 0,.cp [.sl (T.map encR)] 0] (.d (.bool (!b))):=by
  have h94:=q94 T hT
  match x,hx with
  | [x1,x2,x3],_ =>
  have happ:T.map encR++[[.sl (r.map encI)]]=(T++[r]).map encR:=by rw [List.map_append]; rfl
  have hlen:(T++[r]).length=T.length+1:=by rw [List.length_append]; rfl
  have tT:(T.map encR).take T.length=T.map encR:=List.take_of_length_le (by simp)
  generalize T++[r]=T' at *
  have tT':(T'.map encR).take (T.length+1)=T'.map encR:=List.take_of_length_le (by simp [hlen])
  refine pd_of (fn:=Tryz.f93) [.tmp 5] (by kernel_rfl) rfl (by kernel_rfl) (Nat.le_of_ble_eq_true rfl) (by kernel_rfl) rfl rfl ?_
  refine awp_seq ?_
  refine wRg ?_
  refine awp_seq ?_
  refine awpF_drawM [2,4] [] (DT.or (DT.op 0 (DT.or (DT.op 1 (DT.or (DT.op 3 (DT.op 5 (DT.op 6 (DT.op 7 (DT.op 8 (DT.op 9 DT.nil)))))) (DT.op 5 (DT.op 3 (DT.op 6 (DT.op 7 (DT.op 8 (DT.op 9 DT.nil)))))))) (DT.or (DT.op 3 (DT.or (DT.op 1 (DT.op 5 (DT.op 6 (DT.op 7 (DT.op 8 (DT.op 9 DT.nil)))))) (DT.op 5 (DT.or (DT.op 1 (DT.op 6 (DT.op 7 (DT.op 8 (DT.op 9 DT.nil))))) (DT.op 6 (DT.op 1 (DT.op 7 (DT.op 8 (DT.op 9 DT.nil))))))))) (DT.op 5 (DT.or (DT.op 1 (DT.op 3 (DT.op 6 (DT.op 7 (DT.op 8 (DT.op 9 DT.nil)))))) (DT.op 3 (DT.or (DT.op 1 (DT.op 6 (DT.op 7 (DT.op 8 (DT.op 9 DT.nil))))) (DT.op 6 (DT.op 1 (DT.op 7 (DT.op 8 (DT.op 9 DT.nil)))))))))))) (DT.or (DT.op 1 (DT.or (DT.op 0 (DT.or (DT.op 3 (DT.op 5 (DT.op 6 (DT.op 7 (DT.op 8 (DT.op 9 DT.nil)))))) (DT.op 5 (DT.op 3 (DT.op 6 (DT.op 7 (DT.op 8 (DT.op 9 DT.nil)))))))) (DT.or (DT.op 3 (DT.or (DT.op 0 (DT.op 5 (DT.op 6 (DT.op 7 (DT.op 8 (DT.op 9 DT.nil)))))) (DT.op 5 (DT.or (DT.op 0 (DT.op 6 (DT.op 7 (DT.op 8 (DT.op 9 DT.nil))))) (DT.op 6 (DT.op 0 (DT.op 7 (DT.op 8 (DT.op 9 DT.nil))))))))) (DT.op 5 (DT.or (DT.op 0 (DT.op 3 (DT.op 6 (DT.op 7 (DT.op 8 (DT.op 9 DT.nil)))))) (DT.op 3 (DT.or (DT.op 0 (DT.op 6 (DT.op 7 (DT.op 8 (DT.op 9 DT.nil))))) (DT.op 6 (DT.op 0 (DT.op 7 (DT.op 8 (DT.op 9 DT.nil)))))))))))) (DT.or (DT.op 3 (DT.or (DT.op 0 (DT.or (DT.op 1 (DT.op 5 (DT.op 6 (DT.op 7 (DT.op 8 (DT.op 9 DT.nil)))))) (DT.op 5 (DT.or (DT.op 1 (DT.op 6 (DT.op 7 (DT.op 8 (DT.op 9 DT.nil))))) (DT.op 6 (DT.op 1 (DT.op 7 (DT.op 8 (DT.op 9 DT.nil))))))))) (DT.or (DT.op 1 (DT.or (DT.op 0 (DT.op 5 (DT.op 6 (DT.op 7 (DT.op 8 (DT.op 9 DT.nil)))))) (DT.op 5 (DT.or (DT.op 0 (DT.op 6 (DT.op 7 (DT.op 8 (DT.op 9 DT.nil))))) (DT.op 6 (DT.op 0 (DT.op 7 (DT.op 8 (DT.op 9 DT.nil))))))))) (DT.op 5 (DT.or (DT.op 0 (DT.or (DT.op 1 (DT.op 6 (DT.op 7 (DT.op 8 (DT.op 9 DT.nil))))) (DT.op 6 (DT.op 1 (DT.op 7 (DT.op 8 (DT.op 9 DT.nil))))))) (DT.or (DT.op 1 (DT.or (DT.op 0 (DT.op 6 (DT.op 7 (DT.op 8 (DT.op 9 DT.nil))))) (DT.op 6 (DT.op 0 (DT.op 7 (DT.op 8 (DT.op 9 DT.nil))))))) (DT.op 6 (DT.op 0 (DT.op 1 (DT.op 7 (DT.op 8 (DT.op 9 DT.nil)))))))))))) (DT.op 5 (DT.or (DT.op 0 (DT.or (DT.op 1 (DT.op 3 (DT.op 6 (DT.op 7 (DT.op 8 (DT.op 9 DT.nil)))))) (DT.op 3 (DT.or (DT.op 1 (DT.op 6 (DT.op 7 (DT.op 8 (DT.op 9 DT.nil))))) (DT.op 6 (DT.op 1 (DT.op 7 (DT.op 8 (DT.op 9 DT.nil))))))))) (DT.or (DT.op 1 (DT.or (DT.op 0 (DT.op 3 (DT.op 6 (DT.op 7 (DT.op 8 (DT.op 9 DT.nil)))))) (DT.op 3 (DT.or (DT.op 0 (DT.op 6 (DT.op 7 (DT.op 8 (DT.op 9 DT.nil))))) (DT.op 6 (DT.op 0 (DT.op 7 (DT.op 8 (DT.op 9 DT.nil))))))))) (DT.op 3 (DT.or (DT.op 0 (DT.or (DT.op 1 (DT.op 6 (DT.op 7 (DT.op 8 (DT.op 9 DT.nil))))) (DT.op 6 (DT.op 1 (DT.op 7 (DT.op 8 (DT.op 9 DT.nil))))))) (DT.or (DT.op 1 (DT.or (DT.op 0 (DT.op 6 (DT.op 7 (DT.op 8 (DT.op 9 DT.nil))))) (DT.op 6 (DT.op 0 (DT.op 7 (DT.op 8 (DT.op 9 DT.nil))))))) (DT.op 6 (DT.op 0 (DT.op 1 (DT.op 7 (DT.op 8 (DT.op 9 DT.nil))))))))))))))) (by kernel_rfl) (by kernel_rfl) (by kernel_rfl) ?_; intro K hK; simp only [push_cast,seval,tT,happ]
  repeat' (first
    | (with_reducible refine And.intro ?_ ?_)
    | (refine CallK.rel h94 ?_; rintro _ _ ⟨rfl,rfl⟩; simp only [push_cast,seval,tT,happ,tT'])
    | (refine CallK.pd h63 ?_; simp only [push_cast,seval])
    | exact ob1
    | fail)
  all_goals (refine hK _ ?_; refine wRet ?_; rfl)
set_option maxHeartbeats 2000000 in
theorem pos_one {f:List Nd} {P:List (Nat × Nat)} {Q:List Int} {t:Fm} {p:List Ch} (hf:f.length≤1000) (hwf:t.wf) (hft:f=t.flat) (hok2:FmOk f P Q) (hn:∀ n,n∈f→nodeE n p.length=0) (hp:plE p=0)
    (T:List (List Int)) (hT:T≠[]) (htr:trE T p.length=0)
    (hrec:vd t T 0=2→∀ r,r∈folV p (T.getLastD [])→PD Tryz.prog 63 [.agg [.sl (f.map encNd),.sl (P.map encP2),.sl (Q.map encH)],.sl (p.map encCh),.sl ((T++[r]).map encR)] (.d (.bool (posA t p (T++[r]))))) :
    PD Tryz.prog 63 [.agg [.sl (f.map encNd),.sl (P.map encP2),.sl (Q.map encH)],.sl (p.map encCh),.sl (T.map encR)] (.d (.bool (posA t p T))):=by
  have hno:∀ n,n∈f→okN n:=fun n h=>okN_of (hn n h)
  have hno2:∀ n,n∈t.flat→okN n:=fun n h=>hno n (by rw [hft]; exact h)
  obtain ⟨hp1,hp2,hpok,hp9⟩:=pl_ok hp
  obtain ⟨_,_,hlT,hrows⟩:=tr_facts htr
  have hlast:=hrows _ (last_mem hT)
  have hlg:=last_get hT
  have hTl:=List.length_pos_iff.2 hT
  have hjud:=jud_all (T:=T) (by omega) hok2.1 hno (fun n h h2=>cols_of (hn n h) h2 htr) t 0 ⟨hwf,by rw [List.drop_zero,Nat.zero_add,← hft,List.drop_length,List.append_nil]⟩ (hok2.2.2 t hwf hft)
  have h50:=p50 f P Q T
  have hk:=p51k hjud hlT (by rw [← hft]; omega) 0 (by omega) [] (EOK.nil f T) 5
  have hyes:=pos_yes (t:=t) (p:=p) (k:=t.hz.toNat+1 - T.length) (T:=T)
  have hnoo:=pos_no (t:=t) (p:=p) (k:=t.hz.toNat+1 - T.length) (T:=T)
  have hopen:=posA_step (t:=t) (p:=p) (T:=T) hwf hno2
  have h54:vd t T 0=2→PD Tryz.prog 74 [.sl (p.map encCh),.sl ((T.getLastD []).map encI),.fn (.func 93) [.cp [.sl (f.map encNd),.sl (P.map encP2),.sl (Q.map encH)] 0,.cp [.sl (p.map encCh)] 0,.cp [.sl (T.map encR)] 0]] (.d (.bool ((folV p (T.getLastD [])).all fun r => !posA t p (T++[r])))):=fun h2 =>
    p54p p (T.getLastD []) 93 _ _ hp (by omega) hlast.2 fun r hr=>q93 rfl (by omega) (hrec h2 r hr)
  have hall:((folV p (T.getLastD [])).all fun r => !posA t p (T++[r])) = !((folV p (T.getLastD [])).any fun r=>posA t p (T++[r])):=by
    rw [List.not_any_eq_all_not]
  rw [hall] at h54
  have hv:=vd_le t T 0
  have hq:∀ row,row∈T.map encR→row.length=1:=fun row hr=>by obtain ⟨_,_,rfl⟩:=List.mem_map.1 hr; rfl
  have hw1:IntKind.i64.wrap ((T.length:Int) - 1)=((T.length - 1:Nat) : Int):=by rw [wrapI _ (by omega)]; omega
  rw [show posV t p (t.hz.toNat+1 - T.length) T=posA t p T from rfl] at hyes hnoo
  generalize T.getLastD []=L at *
  generalize (folV p L).any (fun r=>posA t p (T++[r]))=b at *
  generalize posA t p T=pv at *
  generalize vd t T 0=v at *
  unfold jdK at *
  refine pd_of (fn:=Tryz.f63) [.tmp 6] (by kernel_rfl) rfl (by kernel_rfl) (Nat.le_of_ble_eq_true rfl) (by kernel_rfl) rfl rfl ?_
  refine awp_seq ?_
  refine wRg ?_
  refine awp_seq ?_
  refine awp_seq ?_
  refine awpF_regionH [3] ?_; intro K hK; simp only [push_cast,seval,List.zipIdx_cons,List.zipIdx_nil]
  refine CallK.rel h50 ?_
  rintro _ _ ⟨rfl,b',c',rfl⟩
  simp only [push_cast,seval,List.map_cons,List.map_nil,List.cons_append,List.nil_append]
  refine HeapK.mk _ (hk _ _ rfl) ?_
  rintro _ _ ⟨rfl,es',rfl,_⟩
  simp only [push_cast,seval,List.set_cons_succ,List.set_cons_zero]
  refine hK _ ?_; clear hK K
  rcases show v=0∨v=1∨v=2 by omega with rfl | rfl | rfl
  · rw [hnoo rfl]
    refine awp_block ?_
    refine awp_seq ?_
    refine wRg ?_
    refine wCd ?_ ?_
    · intro h; cases h
    intro _
    refine awp_seq ?_
    refine wRg ?_
    refine wCd ?_ ?_
    · intro _
      refine awp_seq ?_
      refine wRg ?_
      refine wRet ?_
      rfl
    · intro h; cases h
  · rw [hyes rfl]
    refine awp_block ?_
    refine awp_seq ?_
    refine wRg ?_
    refine wCd ?_ ?_
    · intro _
      refine awp_seq ?_
      refine wRg ?_
      refine wRet ?_
      rfl
    · intro h; cases h
  · rw [hopen rfl]
    have h54:=h54 rfl
    refine awp_block ?_
    refine awp_seq ?_
    refine wRg ?_
    refine wCd ?_ ?_
    · intro h; cases h
    intro _
    refine awp_seq ?_
    refine wRg ?_
    refine wCd ?_ ?_
    · intro h; cases h
    intro _
    refine awp_skip ?_
    refine inblock_norm ?_
    refine awp_fz (.ptr 0 0 0) ?_
    simp only [push_cast,seval,St.fz,St.frz]
    refine awp_fz (.ptr 1 0 0) ?_
    simp only [push_cast,seval,St.fz,St.frz]
    refine awp_fz (.ptr 2 0 0) ?_
    simp only [push_cast,seval,St.fz,St.frz]
    refine awp_seq ?_
    refine awpF_draw [0,1,2,3,4,5,6,7,8,9,10] (by kernel_rfl) (by kernel_rfl) rfl ?_; intro K hK; simp only [push_cast,seval,hw1,Int.toNat_natCast,hlg,encR]
    refine wOb ?_
    refine CallK.pd (h54) ?_; refine wXo ?_
    refine hK _ ?_; clear hK K
    refine wRet ?_
    cases b <;> rfl
theorem pos_all {f:List Nd} {P:List (Nat × Nat)} {Q:List Int} {t:Fm} {p:List Ch} (hf:f.length≤1000) (hwf:t.wf) (hft:f=t.flat) (hok2:FmOk f P Q) (hn:∀ n,n∈f→nodeE n p.length=0) (hp:plE p=0) (hz:t.hz≤60) :
    ∀ (k:Nat) (T:List (List Int)),t.hz.toNat+1 - T.length≤k→T≠[]→trE T p.length=0 →
    PD Tryz.prog 63 [.agg [.sl (f.map encNd),.sl (P.map encP2),.sl (Q.map encH)],.sl (p.map encCh),.sl (T.map encR)] (.d (.bool (posA t p T))):=by
  have hno2:∀ n,n∈t.flat→okN n:=fun n h=>okN_of (hn n (by rw [hft]; exact h))
  have hz0:=(hz_bd t hwf hno2).1
  obtain ⟨hp1,hp2,hpok,hp9⟩:=pl_ok hp
  intro k
  induction k with
  | zero =>
    intro T hk hT htr
    exact pos_one hf hwf hft hok2 hn hp T hT htr fun h2=>absurd h2 (vd_dec t T 0 hwf hno2 (by omega))
  | succ k ih =>
    intro T hk hT htr
    refine pos_one hf hwf hft hok2 hn hp T hT htr fun h2 r hr => ?_
    have hlt:T.length≤60:=by
      rcases Nat.lt_or_ge 60 T.length with h | h
      · exact absurd h2 (vd_dec t T 0 hwf hno2 (by omega))
      · exact h
    obtain ⟨_,_,hlT,hrows⟩:=tr_facts htr
    have hlast:=hrows _ (last_mem hT)
    have hr2:=folV_row p _ hpok (by omega) r hr
    refine ih (T++[r]) (by rw [List.length_append,List.length_singleton]; omega) (by simp) (tr_of (by omega) (by rw [List.length_append,List.length_singleton]; omega) fun q hq => ?_)
    rcases List.mem_append.1 hq with hq | hq
    · exact hrows q hq
    · obtain rfl:=List.mem_singleton.1 hq
      exact ⟨by omega,hr2.2⟩
end Go.Aw
