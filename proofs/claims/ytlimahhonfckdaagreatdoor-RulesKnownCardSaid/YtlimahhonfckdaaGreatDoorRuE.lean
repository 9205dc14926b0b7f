/-
  Texts of the library,one behind the other. Over any program; no condition.
-/
import Derived.Test.YtlimahhonfckdaaGreatDoorRuD
import Derived.Test.YtlimahhonfckdaaGreatDoorPkT
namespace Go.Aw
set_option linter.unusedSimpArgs false
set_option linter.unusedVariables false
open Go.RowKit Go.Proofs
set_option maxRecDepth 100000

theorem both_one {v:Nat} (h:v≤2) : bothV 1 v=v:=by rcases vd_cases h with rfl | rfl | rfl <;> rfl
theorem eith_zero {v:Nat} (h:v≤2) : eithV 0 v=v:=by rcases vd_cases h with rfl | rfl | rfl <;> rfl
theorem p122 {f:List Nd} {P:List (Nat × Nat)} {Q:List Int} {T:List (List Int)} {a b:Fm} {pa pb:Nat} (ha:JudC 101 f P Q T a pa) (hb:JudC 101 f P Q T b pb) (i lo hi:Nat) (hp:pa≤100000∧pb≤100000) (hlo:lo≤hi) (hhi:hi≤20)
    (h1:i+hi+20*a.flat.length≤1000000) (h2:i+hi+20*b.flat.length≤1000000) (es:List (V × V)) (he:EOK f T es) :
    AC Tryz.prog 128 [jdV f P Q T,.d (.int .i64 pa),.d (.int .i64 pb),.d (.int .i64 i),.d (.int .i64 ((i:Int)+lo)),.d (.int .i64 ((i:Int)+hi))] [.mp es] [0]
      fun x H'=>x=.d (.int .i64 ((untS (fun k=>vd a T (i+k)) (fun k=>vd b T (i+k)) lo (hi+1)).2:Nat))∧∃ es',H'=[.mp es']∧EOK f T es':=by
  refine jud_shrink ?_
  have hva:∀ k,vd a T (i+k)≤2:=fun k=>vd_le a T _
  have hvb:∀ k,vd b T (i+k)≤2:=fun k=>vd_le b T _
  have ha81:=fun (k:Nat) (hk:k≤hi) (es':List (V × V)) (he':EOK f T es') X=>ha.frame (i:=i+k) (es:=es') (by omega) he' X (List.range ([Blk.mp es']++X).length)
  have hb81:=fun (k:Nat) (hk:k≤hi) (es':List (V × V)) (he':EOK f T es') X=>hb.frame (i:=i+k) (es:=es') (by omega) he' X (List.range ([Blk.mp es']++X).length)
  generalize hga:(fun k=>vd a T (i+k))=ga at *
  have hgak:∀ k,vd a T (i+k)=ga k:=fun k=>by rw [← hga]
  generalize hgb:(fun k=>vd b T (i+k))=gb at *
  have hgbk:∀ k,vd b T (i+k)=gb k:=fun k=>by rw [← hgb]
  simp only [hgak,hgbk] at hva hvb ha81 hb81
  unfold jdV at *
  push_cast at ha81 hb81
  clear hga hgb hgak hgbk ha hb
  refine ac_ofF (fn:=Tryz.f128) [.tmp 12] (by kernel_rfl) rfl (by kernel_rfl) (Nat.le_of_ble_eq_true rfl) (by kernel_rfl) rfl ?_
  refine awp_seq ?_
  refine wRg ?_
  refine awp_seq ?_
  refine awpF_region ?_; intro K hK; simp only [push_cast,seval]
  refine CallK.rel p121 ?_
  rintro _ _ ⟨rfl,rfl⟩
  simp only [push_cast,seval,List.map_cons,List.map_nil,List.cons_append,List.nil_append]
  refine CallK.rel p120 ?_
  rintro _ _ ⟨rfl,rfl⟩
  simp only [push_cast,seval,List.map_cons,List.map_nil,List.cons_append,List.nil_append]
  refine hK _ ?_; clear hK K
  refine awp_seq ?_
  refine wRg ?_
  refine awp_seq ?_
  refine awp_seq ?_
  refine wRg ?_
  refine awp_block ?_
  refine awp_loopP (α:=Nat × List (V × V)) (st:=fun x=>⟨[(1,.d (.int .i64 pa)),(2,.d (.int .i64 pb)),(4,.d (.int .i64 ((i:Int)+lo))),(5,.d (.int .i64 ((i:Int)+hi))),(6,.ptr 1 0 0),(13,.fn (.func 149) [.d (ordD anyO),.ptr 3 0 0]),(14,.fn (.func 149) [.d (ordD allO),.ptr 5 0 0]),(15,.d (.int .i64 ((untS ga gb lo x.1).1:Nat))),(16,.d (.int .i64 ((untS ga gb lo x.1).2:Nat))),(17,.d (.int .i64 ((i:Int)+x.1)))],
      [.mp x.2,.cells [.d (.sl (f.map encNd)),.d (.sl (P.map encP2)),.d (.sl (Q.map encH)),.d (.sl (T.map encR)),.map 0],.gone,.cells [.d (.int .i64 ((untS ga gb lo x.1).2:Nat))],.gone,.cells [.d (.int .i64 ((untS ga gb lo x.1).1:Nat))]]⟩)
    (inv:=fun x=>x.1≤hi+1∧EOK f T x.2) (μ:=fun x=>hi+1 - x.1) (x0:=(0,es)) (r0:=[0,1,2,3,4,5]) ⟨Nat.zero_le _,he⟩ ?_ ?_
  · simp only [untS]
    push_cast
    refine ⟨by simp,by simp,by simp [push_cast,seval,he.ren],by simp [push_cast,seval],by simp [push_cast,seval],?_⟩
    simp [push_cast,seval]
    exact he.bel2
  rintro ⟨k',es'⟩ ⟨hk,he'⟩
  dsimp only at hk he' ⊢
  obtain ⟨hs1,hs2⟩:=untS_le ga gb lo k'
  have hstep:untS ga gb lo (k'+1)=(bothV (untS ga gb lo k').1 (ga k'),if lo≤k' then eithV (untS ga gb lo k').2 (bothV (untS ga gb lo k').1 (gb k')) else (untS ga gb lo k').2):=rfl
  generalize hS:(untS ga gb lo k').1=S at *
  generalize hV:(untS ga gb lo k').2=W at *
  refine awp_seq ?_
  refine awp_seq ?_
  refine wRg ?_
  refine wCd ?_ ?_
  · intro h3; replace h3:=wHb h3
    have hk2:k'≤hi:=by omega
    refine awp_skip ?_
    refine awp_seq ?_
    refine awp_block ?_
    refine awp_mid (fun u=>∃ es2,EOK f T es2∧u=⟨[(1,.d (.int .i64 pa)),(2,.d (.int .i64 pb)),(4,.d (.int .i64 ((i:Int)+lo))),(5,.d (.int .i64 ((i:Int)+hi))),(6,.ptr 1 0 0),(13,.fn (.func 149) [.d (ordD anyO),.ptr 3 0 0]),(14,.fn (.func 149) [.d (ordD allO),.ptr 5 0 0]),(15,.d (.int .i64 (S:Nat))),(16,.d (.int .i64 ((if lo≤k' then eithV W (bothV S (gb k')) else W:Nat) : Int))),(17,.d (.int .i64 ((i:Int)+k')))],
      [.mp es2,.cells [.d (.sl (f.map encNd)),.d (.sl (P.map encP2)),.d (.sl (Q.map encH)),.d (.sl (T.map encR)),.map 0],.gone,.cells [.d (.int .i64 ((if lo≤k' then eithV W (bothV S (gb k')) else W:Nat) : Int))],.gone,.cells [.d (.int .i64 (S:Nat))]]⟩) ?_ ?_
    · refine awp_seq ?_
      refine wRg ?_
      refine wCd ?_ ?_
      · intro h4; replace h4:=wHb h4
        have h4':lo≤k':=by omega
        rw [if_pos h4']
        refine awp_seq ?_
        refine awpF_region ?_; intro K hK; simp only [push_cast,seval]
        refine CallK.rel p120 ?_
        rintro _ _ ⟨rfl,rfl⟩
        simp only [push_cast,seval,List.map_cons,List.map_nil,List.cons_append,List.nil_append]
        refine hK _ ?_; clear hK K
        refine awp_seq ?_
        refine awpF_regionH [2] ?_; intro K hK; simp only [push_cast,seval,List.zipIdx_cons,List.zipIdx_nil]
        refine HeapK.mk _ (p150 allO rfl _ 7 S 1 rfl ?_) ?_
        · show (Blk.bel 8 (.mp es')&&belHeap 8 _)=true
          rw [he'.bel5]
          rfl
        rintro _ _ ⟨rfl,rfl⟩
        rw [show (1:Int)=((1:Nat) : Int) from rfl,wst_all (by omega) hs1,both_one hs1]
        simp only [push_cast,seval,List.set_cons_succ,List.set_cons_zero]
        refine hK _ ?_; clear hK K
        refine awpF_regionH [5,6,7] ?_; intro K hK; simp only [push_cast,seval,List.zipIdx_cons,List.zipIdx_nil]
        refine HeapK.mk _ (hb81 k' hk2 es' he' _) ?_
        rintro _ _ ⟨rfl,es2,rfl,he2⟩
        simp only [push_cast,seval]
        refine HeapK.mk _ (p150 allO rfl _ 7 (gb k') S rfl ?_) ?_
        · show (Blk.bel 8 (.mp es2)&&belHeap 8 _)=true
          rw [he2.bel5]
          rfl
        rintro _ _ ⟨rfl,rfl⟩
        rw [wst_all hs1 (hvb k')]
        simp only [push_cast,seval,List.set_cons_succ,List.set_cons_zero]
        refine HeapK.mk _ (p150 anyO rfl _ 3 (bothV S (gb k') : Nat) W rfl ?_) ?_
        · show (Blk.bel 8 (.mp es2)&&belHeap 8 _)=true
          rw [he2.bel5]
          rfl
        rintro _ _ ⟨rfl,rfl⟩
        rw [wst_any hs2 (bothV_le _ _)]
        simp only [push_cast,seval,List.set_cons_succ,List.set_cons_zero]
        refine hK _ ?_; clear hK K
        refine mid_end [0,1,2,3,4,5] _ ⟨es2,he2,rfl⟩ ?_
        refine ⟨by simp,by simp,by simp [push_cast,seval,he2.ren],by simp [push_cast,seval],by simp [push_cast,seval],?_⟩
        simp [push_cast,seval]
        exact he2.bel2
      · intro h4; replace h4:=wHb h4
        have h4':¬ lo≤k':=by omega
        rw [if_neg h4']
        refine awp_skip ?_
        refine mid_end [0,1,2,3,4,5] _ ⟨es',he',rfl⟩ ?_
        refine ⟨by simp,by simp,by simp [push_cast,seval,he'.ren],by simp [push_cast,seval],by simp [push_cast,seval],?_⟩
        simp [push_cast,seval]
        exact he'.bel2
    rintro _ ⟨es2,he2,rfl⟩
    refine awpF_regionH [4,5] ?_; intro K hK; simp only [push_cast,seval,List.zipIdx_cons,List.zipIdx_nil]
    refine HeapK.mk _ (ha81 k' hk2 es2 he2 _) ?_
    rintro _ _ ⟨rfl,es3,rfl,he3⟩
    simp only [push_cast,seval]
    refine HeapK.mk _ (p150 allO rfl _ 5 (ga k') S rfl ?_) ?_
    · show (Blk.bel 6 (.mp es3)&&belHeap 6 _)=true
      rw [he3.bel5]
      rfl
    rintro _ _ ⟨rfl,rfl⟩
    rw [wst_all hs1 (hva k')]
    simp only [push_cast,seval,List.set_cons_succ,List.set_cons_zero]
    refine hK _ ?_; clear hK K
    refine inblock_norm ?_
    refine wRg ?_
    refine round_endG (k'+1,es3) [0,1,2,3,4,5] ⟨by dsimp only; omega,⟨by dsimp only; omega,he3⟩,?_⟩
    simp only [hstep]
    push_cast
    rw [show (i:Int)+(k'+1)=i+k'+1 by omega]
    refine ⟨by simp,by simp,by simp [push_cast,seval,he3.ren],by simp [push_cast,seval],by simp [push_cast,seval],?_⟩
    simp [push_cast,seval]
    exact he3.bel2
  · intro h3; replace h3:=wHb h3
    obtain rfl:k'=hi+1:=by omega
    rw [hV]
    refine wEx ?_
    refine awp_seq ?_
    refine wRg ?_
    refine wRet ?_
    exact ⟨rfl,es',_,rfl,he'⟩
end Go.Aw

namespace Go.Aw
set_option linter.unusedSimpArgs false
set_option linter.unusedVariables false
open Go.RowKit Go.Proofs
set_option maxRecDepth 100000

theorem dec_b {f:List Nd} {P:List (Nat × Nat)} {Q:List Int} {T:List (List Int)} {n:Nd} {a b:Fm} {p:Nat} (ht:At f p (.b n a b)) (hr:Right P Q p (.b n a b)) (hf:f.length≤1000) (hpl:P.length=f.length) (ho:okN n)
    (ha:JudC 101 f P Q T a (p+1)) (hb0:JudC 101 f P Q T b (p+1+a.flat.length)) : JudC 120 f P Q T (.b n a b) p:=by
  intro i es hi he
  refine jud_shrink ?_
  have hn:f[p]? = some n:=ht.node
  have hlen:=ht.len
  have hlt:p<f.length:=(List.getElem?_eq_some_iff.1 hn).1
  have hp:P[p]? = some (p+1,p+1+a.flat.length):=hr.1
  have hq:∀ row,row∈f.map encNd→row.length=6:=fun row hr=>by obtain ⟨_,_,rfl⟩:=List.mem_map.1 hr; rfl
  have hw:=ht.1.1
  have hva:=vd_le a T i
  have hvb:=vd_le b T i
  have hvd:vd (.b n a b) T i=if n.op=4 then bothV (vd a T i) (vd b T i) else if n.op=5 then eithV (vd a T i) (vd b T i) else (untS (fun k=>vd a T (i+k)) (fun k=>vd b T (i+k)) n.lo.toNat (n.hi.toNat+1)).2:=rfl
  rw [hvd]
  obtain ⟨op,l,r,k,lo,hi'⟩:=n
  unfold okN opOk at ho
  dsimp only at ho hw ⊢
  simp only [Fm.flat,List.length_cons,List.length_append] at hi hlen
  have hal:=a.len_pos
  have hbl:=b.len_pos
  obtain ⟨loN,rfl⟩ : ∃ x:Nat,lo=x:=⟨lo.toNat,by omega⟩
  obtain ⟨hiN,rfl⟩ : ∃ x:Nat,hi'=x:=⟨hi'.toNat,by omega⟩
  simp only [Int.toNat_natCast]
  have ha81:=fun (es':List (V × V)) (he':EOK f T es') X=>ha.frame (i:=i) (es:=es') (by omega) he' X (List.range ([Blk.mp es']++X).length)
  have hb81:=fun (es':List (V × V)) (he':EOK f T es') X=>hb0.frame (i:=i) (es:=es') (by omega) he' X (List.range ([Blk.mp es']++X).length)
  rcases hw with rfl | rfl | rfl
  · rw [if_pos rfl]
    generalize vd a T i=va at *
    generalize vd b T i=vb at *
    unfold jdV at *
    push_cast at ha81 hb81
    generalize a.flat.length=al at *
    refine ac_ofF (fn:=Tryz.f120) [.tmp 6] (by kernel_rfl) rfl (by kernel_rfl) (Nat.le_of_ble_eq_true rfl) (by kernel_rfl) rfl ?_
    refine awp_seq ?_
    refine wRg ?_
    refine awp_seq ?_
    refine awpF_drawB [0,1,2,3,4,5,6,7,8,9,10,11,12,13,14,15,16,17,18,19] [20,21,22,23] (by kernel_rfl) (by kernel_rfl) (by kernel_rfl) ?_; intro K hK; simp only [push_cast,seval,hid,List.map_cons,List.map_nil,List.length_cons,List.length_nil,List.drop_succ_cons,List.drop_zero,List.cons_append,List.nil_append,hn,hp,encNd,encP2,Int.toNat_natCast]
    refine wOb ?_
    refine hK _ ?_; clear hK K
    (repeat' (first | refine awp_seq ?_ | refine awp_skip ?_ | refine awp_block ?_ | ((first | ((fail_if_success refine awpF_region (id:=12) ?_); refine awpF_region ?_; intro K hK) | (refine awpF_draw (id:=1) [0,1,2,3,4,5,6,7,8,9,10,11,12,13,14,15,16,17,18,19,20,21,22,23] (by kernel_rfl) (by kernel_rfl) rfl ?_; intro K hK) | (refine awpF_draw (id:=2) [0,1,2,3,4,5,6,7,8,9] (by kernel_rfl) (by kernel_rfl) rfl ?_; intro K hK)); simp only [push_cast,seval,beq_self_eq_true]; refine wObW ?_) | (refine hK _ ?_; clear hK K) | (refine wCd ?_ ?_) | (with_reducible intro hb; exfalso; revert hb; simp [beq_self_eq_true]; done) | (with_reducible intro hb; exfalso; replace hb:=wHb hb; omega; done) | (with_reducible intro hb; replace hb:=wHb hb) | (refine wEx ?_) | (refine wRp ?_; refine fin_of (by simp only [push_cast,seval,beq_self_eq_true]; first | done | rfl) ob1 ?_) | (refine inblock_norm ?_)))
    refine awpF_region ?_; intro K hK; simp only [push_cast,seval]
    refine wOb ?_
    refine CallK.rel p120 ?_
    rintro _ _ ⟨rfl,rfl⟩
    simp only [push_cast,seval,List.map_cons,List.map_nil,List.cons_append,List.nil_append]
    refine hK _ ?_; clear hK K
    refine awp_seq ?_
    refine awp_seq ?_
    refine wRg ?_
    refine wCd ?_ ?_
    · intro _
      refine awp_seq ?_
      refine awpF_regionH [4,5] ?_; intro K hK; simp only [push_cast,seval,List.zipIdx_cons,List.zipIdx_nil]
      refine HeapK.mk _ (ha81 es he _) ?_
      rintro _ _ ⟨rfl,es2,rfl,he2⟩
      simp only [push_cast,seval]
      refine HeapK.mk _ (p150 allO rfl _ 4 va (1:Nat) rfl ?_) ?_
      · show (Blk.bel 5 (.mp es2)&&belHeap 5 _)=true
        rw [he2.bel5]
        rfl
      rintro _ _ ⟨rfl,rfl⟩
      rw [wst_all (by omega) hva,both_one hva]
      simp only [push_cast,seval,List.set_cons_succ,List.set_cons_zero]
      refine hK _ ?_; clear hK K
      refine awp_seq ?_
      refine awpF_regionH [4,5] ?_; intro K hK; simp only [push_cast,seval,List.zipIdx_cons,List.zipIdx_nil]
      refine HeapK.mk _ (hb81 es2 he2 _) ?_
      rintro _ _ ⟨rfl,es3,rfl,he3⟩
      simp only [push_cast,seval]
      refine HeapK.mk _ (p150 allO rfl _ 4 vb va rfl ?_) ?_
      · show (Blk.bel 5 (.mp es3)&&belHeap 5 _)=true
        rw [he3.bel5]
        rfl
      rintro _ _ ⟨rfl,rfl⟩
      rw [wst_all hva hvb]
      simp only [push_cast,seval,List.set_cons_succ,List.set_cons_zero]
      refine hK _ ?_; clear hK K
      refine wRet ?_
      exact ⟨rfl,es3,_,rfl,he3⟩
    · intro h1; replace h1:=wHb h1
      simp at h1
  · rw [if_neg (by decide),if_pos rfl]
    generalize vd a T i=va at *
    generalize vd b T i=vb at *
    unfold jdV at *
    push_cast at ha81 hb81
    generalize a.flat.length=al at *
    refine ac_ofF (fn:=Tryz.f120) [.tmp 6] (by kernel_rfl) rfl (by kernel_rfl) (Nat.le_of_ble_eq_true rfl) (by kernel_rfl) rfl ?_
    refine awp_seq ?_
    refine wRg ?_
    refine awp_seq ?_
    refine awpF_drawB [0,1,2,3,4,5,6,7,8,9,10,11,12,13,14,15,16,17,18,19] [20,21,22,23] (by kernel_rfl) (by kernel_rfl) (by kernel_rfl) ?_; intro K hK; simp only [push_cast,seval,hid,List.map_cons,List.map_nil,List.length_cons,List.length_nil,List.drop_succ_cons,List.drop_zero,List.cons_append,List.nil_append,hn,hp,encNd,encP2,Int.toNat_natCast]
    refine wOb ?_
    refine hK _ ?_; clear hK K
    (repeat' (first | refine awp_seq ?_ | refine awp_skip ?_ | refine awp_block ?_ | ((first | ((fail_if_success refine awpF_region (id:=24) ?_); refine awpF_region ?_; intro K hK) | (refine awpF_draw (id:=1) [0,1,2,3,4,5,6,7,8,9,10,11,12,13,14,15,16,17,18,19,20,21,22,23] (by kernel_rfl) (by kernel_rfl) rfl ?_; intro K hK) | (refine awpF_draw (id:=2) [0,1,2,3,4,5,6,7,8,9] (by kernel_rfl) (by kernel_rfl) rfl ?_; intro K hK)); simp only [push_cast,seval,beq_self_eq_true]; refine wObW ?_) | (refine hK _ ?_; clear hK K) | (refine wCd ?_ ?_) | (with_reducible intro hb; exfalso; revert hb; simp [beq_self_eq_true]; done) | (with_reducible intro hb; exfalso; replace hb:=wHb hb; omega; done) | (with_reducible intro hb; replace hb:=wHb hb) | (refine wEx ?_) | (refine wRp ?_; refine fin_of (by simp only [push_cast,seval,beq_self_eq_true]; first | done | rfl) ob1 ?_) | (refine inblock_norm ?_)))
    refine awpF_region ?_; intro K hK; simp only [push_cast,seval]
    refine wOb ?_
    refine CallK.rel p121 ?_
    rintro _ _ ⟨rfl,rfl⟩
    simp only [push_cast,seval,List.map_cons,List.map_nil,List.cons_append,List.nil_append]
    refine hK _ ?_; clear hK K
    refine awp_seq ?_
    refine awp_seq ?_
    refine wRg ?_
    refine wCd ?_ ?_
    · intro _
      refine awp_seq ?_
      refine awpF_regionH [4,5] ?_; intro K hK; simp only [push_cast,seval,List.zipIdx_cons,List.zipIdx_nil]
      refine HeapK.mk _ (ha81 es he _) ?_
      rintro _ _ ⟨rfl,es2,rfl,he2⟩
      simp only [push_cast,seval]
      refine HeapK.mk _ (p150 anyO rfl _ 4 va (0:Nat) rfl ?_) ?_
      · show (Blk.bel 5 (.mp es2)&&belHeap 5 _)=true
        rw [he2.bel5]
        rfl
      rintro _ _ ⟨rfl,rfl⟩
      rw [wst_any (by omega) hva,eith_zero hva]
      simp only [push_cast,seval,List.set_cons_succ,List.set_cons_zero]
      refine hK _ ?_; clear hK K
      refine awp_seq ?_
      refine awpF_regionH [4,5] ?_; intro K hK; simp only [push_cast,seval,List.zipIdx_cons,List.zipIdx_nil]
      refine HeapK.mk _ (hb81 es2 he2 _) ?_
      rintro _ _ ⟨rfl,es3,rfl,he3⟩
      simp only [push_cast,seval]
      refine HeapK.mk _ (p150 anyO rfl _ 4 vb va rfl ?_) ?_
      · show (Blk.bel 5 (.mp es3)&&belHeap 5 _)=true
        rw [he3.bel5]
        rfl
      rintro _ _ ⟨rfl,rfl⟩
      rw [wst_any hva hvb]
      simp only [push_cast,seval,List.set_cons_succ,List.set_cons_zero]
      refine hK _ ?_; clear hK K
      refine wRet ?_
      exact ⟨rfl,es3,_,rfl,he3⟩
    · intro h1; replace h1:=wHb h1
      simp at h1
  · rw [if_neg (by decide),if_neg (by decide)]
    have h122:=fun X=>AC.frame (H1:=[.mp es]) (p122 ha hb0 i loN hiN (by omega) (by omega) (by omega) (by omega) (by omega) es he) X (List.range ([Blk.mp es]++X).length) (he.bel 1) rfl (by rintro x H' ⟨_,es',rfl,_⟩; rfl)
    generalize (untS _ _ loN (hiN+1)).2=v at *
    unfold jdV at *
    push_cast at h122
    generalize a.flat.length=al at *
    refine ac_ofF (fn:=Tryz.f120) [.tmp 6] (by kernel_rfl) rfl (by kernel_rfl) (Nat.le_of_ble_eq_true rfl) (by kernel_rfl) rfl ?_
    refine awp_seq ?_
    refine wRg ?_
    refine awp_seq ?_
    refine awpF_drawB [0,1,2,3,4,5,6,7,8,9,10,11,12,13,14,15,16,17,18,19] [20,21,22,23] (by kernel_rfl) (by kernel_rfl) (by kernel_rfl) ?_; intro K hK; simp only [push_cast,seval,hid,List.map_cons,List.map_nil,List.length_cons,List.length_nil,List.drop_succ_cons,List.drop_zero,List.cons_append,List.nil_append,hn,hp,encNd,encP2,Int.toNat_natCast]
    refine wOb ?_
    refine hK _ ?_; clear hK K
    (repeat' (first | refine awp_seq ?_ | refine awp_skip ?_ | refine awp_block ?_ | ((first | ((fail_if_success refine awpF_region (id:=34) ?_); refine awpF_region ?_; intro K hK) | (refine awpF_draw (id:=1) [0,1,2,3,4,5,6,7,8,9,10,11,12,13,14,15,16,17,18,19,20,21,22,23] (by kernel_rfl) (by kernel_rfl) rfl ?_; intro K hK) | (refine awpF_draw (id:=2) [0,1,2,3,4,5,6,7,8,9] (by kernel_rfl) (by kernel_rfl) rfl ?_; intro K hK)); simp only [push_cast,seval,beq_self_eq_true]; refine wObW ?_) | (refine hK _ ?_; clear hK K) | (refine wCd ?_ ?_) | (with_reducible intro hb; exfalso; revert hb; simp [beq_self_eq_true]; done) | (with_reducible intro hb; exfalso; replace hb:=wHb hb; omega; done) | (with_reducible intro hb; replace hb:=wHb hb) | (refine wEx ?_) | (refine wRp ?_; refine fin_of (by simp only [push_cast,seval,beq_self_eq_true]; first | done | rfl) ob1 ?_) | (refine inblock_norm ?_)))
    refine awpF_regionH [6] ?_; intro K hK; simp only [push_cast,seval,List.zipIdx_cons,List.zipIdx_nil]
    refine HeapK.mk _ (h122 _) ?_
    rintro _ _ ⟨_,rfl,⟨es',rfl,he'⟩,rfl⟩
    simp only [push_cast,seval,List.singleton_append]
    refine hK _ ?_; clear hK K
    refine wRet ?_
    exact ⟨rfl,es',_,rfl,he'⟩
theorem jud_all {f:List Nd} {P:List (Nat × Nat)} {Q:List Int} {T:List (List Int)} (hf:f.length≤1000) (hpl:P.length=f.length) (ho:∀ n,n∈f→okN n) (hc:∀ n,n∈f→n.op=2→colsOk n T) : ∀ (t:Fm) (p:Nat),At f p t→Right P Q p t→JudC 101 f P Q T t p
  | .z n,p,ht,hr=>node_of ht hf (dec_z ht hr hf hpl (ho n (List.mem_of_getElem? ht.node)) (hc n (List.mem_of_getElem? ht.node)))
  | .u n a,p,ht,hr=>node_of ht hf (dec_u ht hr hf hpl (ho n (List.mem_of_getElem? ht.node)) (jud_all hf hpl ho hc a (p+1) ht.u hr.2.2))
  | .b n a b,p,ht,hr=>node_of ht hf (dec_b ht hr hf hpl (ho n (List.mem_of_getElem? ht.node)) (jud_all hf hpl ho hc a (p+1) ht.b.1 hr.2.2.1) (jud_all hf hpl ho hc b (p+1+a.flat.length) ht.b.2 hr.2.2.2))
end Go.Aw

namespace Go.Aw
set_option linter.unusedSimpArgs false
set_option linter.unusedVariables false
open Go.RowKit Go.Proofs
set_option maxRecDepth 100000

theorem firstE_mem {w:Int} {f:List Nd} (h:shE f w=0) : ∀ n,n∈f→nodeE n w=0:=by
  unfold shE at h
  split at h
  · cases h
  split at h
  · cases h
  split at h
  · rename_i h1; exact absurd h h1
  rename_i h3
  exact firstE_all (by simpa using h3)
theorem rowsE_all {w:Int} : ∀ {t:List (List Int)},rowsE w t=0→∀ r,r∈t→rowE w r=0
  | [],_,r,hr=>by cases hr
  | m::l,h,r,hr=>by
    rw [rowsE] at h
    split at h
    · rename_i h1
      rcases List.mem_cons.1 hr with rfl | hr
      · exact h1
      · exact rowsE_all h r hr
    · rename_i h1
      exact absurd h h1
theorem tr_facts {t:List (List Int)} {w:Int} (h:trE t w=0) : 1≤w∧w≤12∧t.length≤400∧∀ r,r∈t→(r.length:Int)=w∧∀ x,x∈r→inV x=true:=by
  unfold trE at h
  split at h
  · cases h
  split at h
  · cases h
  refine ⟨by omega,by omega,by omega,fun r hr => ?_⟩
  have:=rowsE_all h r hr
  unfold rowE at this
  split at this
  · cases this
  · split at this
    · rename_i h1 h2
      exact ⟨by omega,fun x hx=>List.all_eq_true.1 h2 x hx⟩
    · cases this
theorem cols_of {n:Nd} {w:Int} {t:List (List Int)} (hn:nodeE n w=0) (h2:n.op=2) (ht:trE t w=0) : colsOk n t:=by
  obtain ⟨_,_,_,hr⟩:=tr_facts ht
  unfold nodeE at hn
  split at hn
  · cases hn
  split at hn
  · cases hn
  split at hn
  · rename_i hf
    unfold fairN at hf
    rw [if_pos h2] at hf
    simp only [Bool.and_eq_true,decide_eq_true_eq] at hf
    refine ⟨by omega,by omega,fun r hm => ?_⟩
    obtain ⟨q1,q2⟩:=hr r hm
    exact ⟨by omega,by omega,q2⟩
  · cases hn
def jdK (k:Nat) (f:List Nd) (P:List (Nat × Nat)) (Q:List Int) (T:List (List Int)) : V:=.agg [.d (.sl (f.map encNd)),.d (.sl (P.map encP2)),.d (.sl (Q.map encH)),.d (.sl (T.map encR)),.map k]
theorem p50 (f:List Nd) (P:List (Nat × Nat)) (Q:List Int) (T:List (List Int)) : PC Tryz.prog 71 [.agg [.sl (f.map encNd),.sl (P.map encP2),.sl (Q.map encH)],.sl (T.map encR)] fun x H=>x=jdK 2 f P Q T∧∃ b c,H=[.cells b,.cells c,.mp []]:=by
  unfold jdK
  refine pc_of (fn:=Tryz.f71) [.cell 4 110] (by kernel_rfl) rfl (by kernel_rfl) (Nat.le_of_ble_eq_true rfl) (by kernel_rfl) rfl ?_
  refine awp_seq ?_
  refine wRg ?_
  refine awp_seq ?_
  refine wRg ?_
  refine wRet ?_
  exact ⟨rfl,_,_,rfl⟩
theorem p51 {f:List Nd} {P:List (Nat × Nat)} {Q:List Int} {T:List (List Int)} {t:Fm} (h:JudC 101 f P Q T t 0) (hT:T.length≤400) (hl:t.flat.length≤1000) (i:Nat) (hi:i≤9223372036854775807) (es:List (V × V)) (he:EOK f T es) :
    AC Tryz.prog 72 [jdV f P Q T,.d (.int .i64 i)] [.mp es] [0] fun x H'=>x=.d (.int .i64 (vd t T i))∧∃ es',H'=[.mp es']∧EOK f T es':=by
  refine jud_shrink ?_
  have h81:=fun X=>h.frame (i:=min i T.length) (es:=es) (by omega) he X (List.range ([Blk.mp es]++X).length)
  rw [vd_min] at h81
  generalize vd t T i=v at *
  unfold jdV at *
  have em:((min i T.length:Nat) : Int)=min (i:Int) T.length:=by omega
  simp only [em] at h81
  push_cast at h81
  refine ac_ofF (fn:=Tryz.f72) [.tmp 4] (by kernel_rfl) rfl (by kernel_rfl) (Nat.le_of_ble_eq_true rfl) (by kernel_rfl) rfl ?_
  refine awp_seq ?_
  refine wRg ?_
  refine awp_seq ?_
  refine awpF_regionH [6] ?_; intro K hK; simp only [push_cast,seval,List.zipIdx_cons,List.zipIdx_nil]
  refine HeapK.mk _ (h81 _) ?_
  rintro _ _ ⟨rfl,es',rfl,he'⟩
  simp only [push_cast,seval]
  refine hK _ ?_; clear hK K
  refine wRet ?_
  exact ⟨rfl,es',_,rfl,he'⟩
theorem p51k {f:List Nd} {P:List (Nat × Nat)} {Q:List Int} {T:List (List Int)} {t:Fm} (h:JudC 101 f P Q T t 0) (hT:T.length≤400) (hl:t.flat.length≤1000) (i:Nat) (hi:i≤9223372036854775807) (es:List (V × V)) (he:EOK f T es) (k:Nat) (H:List Blk) (kp:List Nat) (hk:H[k]? = some (.mp es)) :
    AC Tryz.prog 72 [jdK k f P Q T,.d (.int .i64 i)] H kp fun x H'=>x=.d (.int .i64 (vd t T i))∧∃ es',H'=H.set k (.mp es')∧EOK f T es':=by
  refine (AC.at (p51 h hT hl i hi es he) k H kp hk he.bel5 rfl ?_).mono ?_
  · rintro x H' ⟨rfl,es',rfl,he'⟩
    exact ⟨rfl,es',rfl,he'.bel5⟩
  · rintro x H' ⟨es',⟨rfl,es2,e,he'⟩,rfl⟩
    cases e
    exact ⟨rfl,es',rfl,he'⟩
def evE (f:List Nd) (w:Int) (t:Fm) (T:List (List Int)) (i:Int) : Int:=if chkE f w t≠0 then chkE f w t else if trE T w≠0 then trE T w else if i<0 then 2 else 0
def evV (f:List Nd) (w:Int) (t:Fm) (T:List (List Int)) (i:Int) : Int:=if evE f w t T i=0 then (vd t T i.toNat:Nat) else 0
theorem chk_sh {f:List Nd} {w:Int} {t:Fm} (h:chkE f w t=0) : shE f w=0:=by
  unfold chkE at h
  split at h
  · cases h
  · exact h
theorem p24 (f:List Nd) (w:Int) (t:Fm) (T:List (List Int)) (i:Int) (hf:f.length≤1000000) (ht:shE f w=0→t.wf∧f=t.flat) (hi:i≤9223372036854775807) :
    PD Tryz.prog 33 [.sl (f.map encNd),.int .i64 w,.sl (T.map encR),.int .i64 i] (.tup [.d (.int .i64 (evV f w t T i)),.d (.int .i64 (evE f w t T i))]):=by
  have h45:=p45 f w t hf ht
  have h20:=p20 T w
  by_cases hc:chkE f w t=0
  · have hs:=chk_sh hc
    obtain ⟨t1,t2⟩:=ht hs
    obtain ⟨hf40,hno,_⟩:=sh_facts hs
    rw [hc] at h45
    by_cases htr:trE T w=0
    · obtain ⟨_,_,hT,_⟩:=tr_facts htr
      by_cases hi0:i<0
      · have e1:evE f w t T i=2:=by rw [evE,if_neg (by simpa using hc),if_neg (by simpa using htr),if_pos hi0]
        have e2:evV f w t T i=0:=by rw [evV,e1]; rfl
        rw [e1,e2]
        rw [htr] at h20
        have hd:decide (i<0)=true:=decide_eq_true hi0
        refine pd_of (fn:=Tryz.f33) [.tmp 8,.tmp 9] (by kernel_rfl) rfl (by kernel_rfl) (Nat.le_of_ble_eq_true rfl) (by kernel_rfl) rfl rfl ?_
        refine awp_seq ?_
        refine wRg ?_
        refine awp_seq ?_
        refine awpF_region ?_; intro K hK; simp only [push_cast,seval]
        refine wOb ?_
        refine CallK.rel h45 ?_
        rintro _ _ ⟨⟨a,b,Q,rfl,hok⟩,rfl⟩
        simp only [push_cast,seval]
        refine wOb ?_
        refine hK _ ?_; clear hK K
        (repeat' (first | refine awp_seq ?_ | refine awp_skip ?_ | refine awp_block ?_ | ((first | (refine awpF_region ?_; intro K hK) | refine CallK.pd (h20) ?_ | refine CallK.pg (fun _=>h20) ?_); simp only [push_cast,seval,bne_self_eq_false,hd]; refine wObW ?_) | (refine hK _ ?_; clear hK K) | (refine wCd ?_ ?_) | (with_reducible intro hb; exfalso; revert hb; simp [bne_self_eq_false,hd]; done) | (with_reducible intro hb; exfalso; replace hb:=wHb hb; omega; done) | (with_reducible intro hb; replace hb:=wHb hb) | (refine wEx ?_) | (refine wRp ?_; refine fin_of (by simp only [push_cast,seval,bne_self_eq_false,hd]; first | done | rfl) ob1 ?_) | (refine inblock_norm ?_)))
        rfl
      · have e1:evE f w t T i=0:=by rw [evE,if_neg (by simpa using hc),if_neg (by simpa using htr),if_neg hi0]
        have e2:evV f w t T i=(vd t T i.toNat:Nat):=by rw [evV,e1]; rfl
        rw [e1,e2]
        rw [htr] at h20
        obtain ⟨k,rfl⟩ : ∃ k:Nat,i=k:=⟨i.toNat,by omega⟩
        have hd:decide ((k:Int)<0)=false:=decide_eq_false hi0
        rw [Int.toNat_natCast]
        refine pd_of (fn:=Tryz.f33) [.tmp 8,.tmp 9] (by kernel_rfl) rfl (by kernel_rfl) (Nat.le_of_ble_eq_true rfl) (by kernel_rfl) rfl rfl ?_
        refine awp_seq ?_
        refine wRg ?_
        refine awp_seq ?_
        refine awpF_region ?_; intro K hK; simp only [push_cast,seval]
        refine wOb ?_
        refine CallK.rel h45 ?_
        rintro _ _ ⟨⟨a,b,Q,rfl,hok⟩,rfl⟩
        obtain ⟨rfl,P,rfl,hok2⟩:=hok rfl
        have hjud:=jud_all (T:=T) (by omega) hok2.1 hno (fun n hn h2=>cols_of (firstE_mem hs n hn) h2 htr) t 0 ⟨t1,by rw [List.drop_zero,Nat.zero_add,← t2,List.drop_length,List.append_nil]⟩ (hok2.2.2 t t1 t2)
        have h50:=p50 f P Q T
        have hk:=p51k hjud hT (by rw [← t2]; omega) k (by omega) [] (EOK.nil f T) 3
        generalize vd t T k=v at *
        unfold jdK at *
        simp only [push_cast,seval]
        refine wOb ?_
        refine hK _ ?_; clear hK K
        (repeat' (first | refine awp_seq ?_ | refine awp_skip ?_ | refine awp_block ?_ | ((first | ((fail_if_success refine awpF_region (id:=9) ?_); refine awpF_region ?_; intro K hK) | refine CallK.pd (h20) ?_ | refine CallK.pg (fun _=>h20) ?_); simp only [push_cast,seval,bne_self_eq_false,hd]; refine wObW ?_) | (refine hK _ ?_; clear hK K) | (refine wCd ?_ ?_) | (with_reducible intro hb; exfalso; revert hb; simp [bne_self_eq_false,hd]; done) | (with_reducible intro hb; exfalso; replace hb:=wHb hb; omega; done) | (with_reducible intro hb; replace hb:=wHb hb) | (refine wEx ?_) | (refine wRp ?_; refine fin_of (by simp only [push_cast,seval,bne_self_eq_false,hd]; first | done | rfl) ob1 ?_) | (refine inblock_norm ?_)))
        refine awpF_regionH [4] ?_; intro K hK; simp only [push_cast,seval,List.zipIdx_cons,List.zipIdx_nil]
        refine CallK.rel h50 ?_
        rintro _ _ ⟨rfl,b,c,rfl⟩
        simp only [push_cast,seval,List.map_cons,List.map_nil,List.cons_append,List.nil_append]
        refine HeapK.mk _ (hk _ _ rfl) ?_
        rintro _ _ ⟨rfl,es',rfl,_⟩
        simp only [push_cast,seval,List.set_cons_succ,List.set_cons_zero]
        refine hK _ ?_; clear hK K
        refine wRet ?_
        rfl
    · have e1:evE f w t T i=trE T w:=by rw [evE,if_neg (by simpa using hc),if_pos htr]
      have e2:evV f w t T i=0:=by rw [evV,e1,if_neg htr]
      rw [e1,e2]
      have hb1:(trE T w != 0)=true:=by simpa using htr
      generalize trE T w=e at *
      refine pd_of (fn:=Tryz.f33) [.tmp 8,.tmp 9] (by kernel_rfl) rfl (by kernel_rfl) (Nat.le_of_ble_eq_true rfl) (by kernel_rfl) rfl rfl ?_
      refine awp_seq ?_
      refine wRg ?_
      refine awp_seq ?_
      refine awpF_region ?_; intro K hK; simp only [push_cast,seval]
      refine wOb ?_
      refine CallK.rel h45 ?_
      rintro _ _ ⟨⟨a,b,Q,rfl,hok⟩,rfl⟩
      simp only [push_cast,seval]
      refine wOb ?_
      refine hK _ ?_; clear hK K
      (repeat' (first | refine awp_seq ?_ | refine awp_skip ?_ | refine awp_block ?_ | ((first | (refine awpF_region ?_; intro K hK) | refine CallK.pd (h20) ?_ | refine CallK.pg (fun _=>h20) ?_); simp only [push_cast,seval,bne_self_eq_false,hb1]; refine wObW ?_) | (refine hK _ ?_; clear hK K) | (refine wCd ?_ ?_) | (with_reducible intro hb; exfalso; revert hb; simp [bne_self_eq_false,hb1]; done) | (with_reducible intro hb; exfalso; replace hb:=wHb hb; omega; done) | (with_reducible intro hb; replace hb:=wHb hb) | (refine wEx ?_) | (refine wRp ?_; refine fin_of (by simp only [push_cast,seval,bne_self_eq_false,hb1]; first | done | rfl) ob1 ?_) | (refine inblock_norm ?_)))
      rfl
  · have e1:evE f w t T i=chkE f w t:=by rw [evE,if_pos hc]
    have e2:evV f w t T i=0:=by rw [evV,e1,if_neg hc]
    rw [e1,e2]
    have hb1:(chkE f w t != 0)=true:=by simpa using hc
    generalize chkE f w t=e at *
    refine pd_of (fn:=Tryz.f33) [.tmp 8,.tmp 9] (by kernel_rfl) rfl (by kernel_rfl) (Nat.le_of_ble_eq_true rfl) (by kernel_rfl) rfl rfl ?_
    refine awp_seq ?_
    refine wRg ?_
    refine awp_seq ?_
    refine awpF_region ?_; intro K hK; simp only [push_cast,seval]
    refine wOb ?_
    refine CallK.rel h45 ?_
    rintro _ _ ⟨⟨a,b,Q,rfl,hok⟩,rfl⟩
    simp only [push_cast,seval]
    refine wOb ?_
    refine hK _ ?_; clear hK K
    (repeat' (first | refine awp_seq ?_ | refine awp_skip ?_ | refine awp_block ?_ | ((first | (refine awpF_region ?_; intro K hK)); simp only [push_cast,seval,hb1]; refine wObW ?_) | (refine hK _ ?_; clear hK K) | (refine wCd ?_ ?_) | (with_reducible intro hb; exfalso; revert hb; simp [hb1]; done) | (with_reducible intro hb; exfalso; replace hb:=wHb hb; omega; done) | (with_reducible intro hb; replace hb:=wHb hb) | (refine wEx ?_) | (refine wRp ?_; refine fin_of (by simp only [push_cast,seval,hb1]; first | done | rfl) ob1 ?_) | (refine inblock_norm ?_)))
    rfl
end Go.Aw
