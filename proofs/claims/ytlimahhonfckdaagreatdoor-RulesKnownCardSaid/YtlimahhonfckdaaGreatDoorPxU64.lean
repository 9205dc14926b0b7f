/-
  The costs of a trace,on the program's side. Conditions: lengths that fit.
-/
import Derived.Test.YtlimahhonfckdaaGreatDoorPxU63
namespace Go.Aw
set_option linter.unusedSimpArgs false
set_option linter.unusedVariables false
open Go.RowKit Go.Proofs
set_option maxRecDepth 100000

def coE (b:List Lw) (w:Int) (T:List (List Int)) : Int:=if bkE b w≠0 then bkE b w else trE T w
def coV (b:List Lw) (w:Int) (T:List (List Int)) : List Int:=if coE b w T=0 then costV b T else List.replicate 10 0
theorem coV_len (b:List Lw) (w:Int) (T:List (List Int)) : (coV b w T).length=10:=by
  unfold coV
  split
  · exact costV_len b T
  · rfl
theorem book_facts {b:List Lw} {w:Int} (h:bkE b w=0) : b.length≤8∧(∀ l,l∈b→lwE l w=0)∧1≤w∧w≤12:=by
  unfold bkE at h
  split at h
  · cases h
  split at h
  · rename_i h1 h2; exact absurd h h2
  rename_i h1 h2
  split at h
  · cases h
  · exact ⟨by omega,lwsE_all (by simpa using h2),by omega,by omega⟩
theorem law_facts {l:Lw} {w:Int} (h:lwE l w=0) : 0≤l.rank∧l.rank≤9∧chkE l.nodes w l.tree=0:=by
  unfold lwE at h
  split at h
  · cases h
  · exact ⟨by omega,by omega,h⟩
theorem addC_zero (c:List Int) (r:Nat) (hr:r<c.length) : addC c r 0=c:=by
  unfold addC
  apply List.ext_getElem?
  intro i
  rw [List.getElem?_set]
  split
  · rename_i h
    subst h
    simp [hr]
  · rfl
theorem addC_set (c:List Int) (r k m:Nat) (hr:r<c.length) : (addC c r k).set r ((addC c r k).getD r 0+(m:Int))=addC c r (k+m):=by
  unfold addC
  rw [List.set_set]
  congr 1
  simp [List.getD_eq_getElem?_getD,hr]
  omega
def z10:List Int:=List.replicate 10 0
def cvs (cs:List Int) : List V:=cs.map dI
@[simp] theorem cvs_ren (r:List Nat) : ∀ cs:List Int,V.renL r (cvs cs)=cvs cs
  | []=>rfl
  | _::l=>congrArg (List.cons _) (cvs_ren r l)
@[simp] theorem cvs_bel (n:Nat) : ∀ cs:List Int,V.belL n (cvs cs)=true
  | []=>rfl
  | _::l=>cvs_bel n l
@[simp] theorem cvs_len (cs:List Int) : (cvs cs).length=cs.length:=List.length_map _
theorem cvs_all {cs:List Int} (h:cs.length=10) : (cvs cs).take 10=cvs cs:=List.take_of_length_le (by simp [h])
theorem cvs_none {cs:List Int} (h:cs.length=10) : (cvs cs).drop 10=[]:=List.drop_of_length_le (by simp [h])
theorem cvs_set (c:List Int) (r:Nat) (x:Int) : (cvs c).set r (.d (.int .i64 x))=cvs (c.set r x):=by rw [cvs,cvs,List.map_set]; rfl
theorem cvs_put (c:List Int) (r:Nat) (x:Int) (hr:r<c.length) : (cvs c).take r++.d (.int .i64 x)::(cvs c).drop (r+1)=cvs (c.set r x):=by
  rw [← cvs_set,List.set_eq_take_append_cons_drop,if_pos (by rw [cvs_len]; exact hr)]
theorem cvs_get (c:List Int) (r:Nat) (hr:r<c.length) : (cvs c).getD r .junk=.d (.int .i64 (c.getD r 0)):=by
  simp [cvs,List.getD_eq_getElem?_getD,hr,dI]
theorem cvs_leaf:∀ cs:List Int,(cvs cs).all V.leaf=true
  | []=>rfl
  | _::l=>cvs_leaf l
@[simp] theorem costL_nil (T:List (List Int)) (c:List Int) : costL T [] c=c:=rfl
theorem deep_costs {H:List Blk} (cs:List Int) (e:D) : DeepV H (.tup [.agg (cvs cs),.d e]) (.tup [.agg (cvs cs),.d e]):=by
  refine DeepV.tups (DeepV.cons (DeepV.aggs ⟨rfl,fun j x y h1 h2 => ?_⟩) (DeepV.cons (.dd e) DeepV.nils))
  rw [h1] at h2
  cases h2
  obtain ⟨a,-,rfl⟩:=List.mem_map.1 (List.mem_of_getElem? h1)
  exact .dd _
theorem p73 (b:List Lw) (w:Int) (T:List (List Int)) (ht:treesOk b w) (hb:b.length≤1000000) (hT:T.length≤1000000) : PD Tryz.prog 55 [.sl (b.map encLw),.int .i64 w,.sl (T.map encR)] (.tup [.agg (cvs (coV b w T)),.d (.int .i64 (coE b w T))]):=by
  have h96:=p96 b w ht
  have h20:=p20 T w
  have hq:∀ row,row∈b.map encLw→row.length=2:=fun row hr=>by obtain ⟨_,_,rfl⟩:=List.mem_map.1 hr; rfl
  by_cases hbe:bkE b w=0
  · obtain ⟨hb8,hall,hw⟩:=book_facts hbe
    by_cases htr:trE T w=0
    · obtain ⟨_,_,hT4,_⟩:=tr_facts htr
      have e1:coE b w T=0:=by rw [coE,hbe,if_neg (by simp),htr]
      have e2:coV b w T=costV b T:=by rw [coV,if_pos e1]
      rw [e1,e2]
      rw [hbe] at h96
      rw [htr] at h20
      refine pdv_of (fn:=Tryz.f55) [.cell 6 90,.tmp 7] (by kernel_rfl) rfl (by kernel_rfl) (Nat.le_of_ble_eq_true rfl) (by kernel_rfl) rfl ?_
      (repeat' (first | refine awp_seq ?_ | refine awp_skip ?_ | refine awp_block ?_ | ((first | ((fail_if_success refine awpF_region (id:=8) ?_); refine awpF_region ?_; intro K hK) | refine CallK.pd (h96) ?_ | refine CallK.pg (fun _=>h96) ?_ | refine CallK.pd (h20) ?_ | refine CallK.pg (fun _=>h20) ?_); simp only [push_cast,seval,bne_self_eq_false]; refine wObW ?_) | (refine hK _ ?_; clear hK K) | (refine wCd ?_ ?_) | (with_reducible intro hb; exfalso; revert hb; simp [bne_self_eq_false]; done) | (with_reducible intro hb; exfalso; replace hb:=wHb hb; omega; done) | (with_reducible intro hb; replace hb:=wHb hb) | (refine wEx ?_) | (refine wRp ?_; refine fin_of (by simp only [push_cast,seval,bne_self_eq_false]; first | done | rfl) ob1 ?_) | (refine inblock_norm ?_)))
      refine wRg ?_
      rw [show ([.d (.int .i64 0),.d (.int .i64 0),.d (.int .i64 0),.d (.int .i64 0),.d (.int .i64 0),.d (.int .i64 0),.d (.int .i64 0),.d (.int .i64 0),.d (.int .i64 0),.d (.int .i64 0)] : List V)=cvs z10 from rfl]
      refine awp_block ?_
      refine awp_loopP (α:=Nat) (st:=fun i=>⟨[(1,.d (.int .i64 w)),(2,.d (.sl (T.map encR))),(6,.ptr 0 0 0),(8,.ptr 1 0 0),(31,.d (.sl (b.map encLw))),(32,.d (.int .i64 b.length)),(33,.d (.int .i64 i))],[.cells (cvs z10),.cells (cvs (costL T (b.take i) z10))]⟩)
        (inv:=fun i=>i≤b.length) (μ:=fun i=>b.length - i) (x0:=0) (r0:=[0,1]) (Nat.zero_le _) ?_ ?_
      · exact wRen
      intro i hi
      refine awp_seq ?_
      refine wRg ?_
      refine awp_seq ?_
      refine wCd ?_ ?_
      · intro h2; replace h2:=wHb h2
        have hlt:i<b.length:=by omega
        obtain ⟨l,hl⟩ : ∃ l,b[i]? = some l:=⟨_,List.getElem?_eq_getElem hlt⟩
        have hmem:=List.mem_of_getElem? hl
        have hstep:=costL_take T b i l (z10) hl
        have hlen:(costL T (b.take i) (z10)).length=10:=costL_len T _ _
        obtain ⟨hr0,hr9,hch⟩:=law_facts (hall l hmem)
        obtain ⟨rk,nodes,tree⟩:=l
        simp only at hr0 hr9 hch
        obtain ⟨r,rfl⟩ : ∃ r:Nat,rk=r:=⟨rk.toNat,by omega⟩
        simp only [Int.toNat_natCast] at hstep
        have h45:=p45 nodes w tree (ht _ hmem).1 (ht _ hmem).2
        rw [hch] at h45
        have hs:=chk_sh hch
        obtain ⟨t1,t2⟩:=(ht _ hmem).2 hs
        simp only at t1 t2
        obtain ⟨hf40,hno,_⟩:=sh_facts hs
        have hcs0:∀ x,x∈costL T (b.take i) z10→0≤x∧x≤0+400*((b.take i).length:Int):=costL_bd (by omega) (b.take i) z10 0 (by decide) fun x hx=>by
          rw [(List.mem_replicate.1 hx).2]
          decide
        have htl:(b.take i).length≤8:=by rw [List.length_take]; omega
        generalize costL T (b.take i) z10=cs at *
        have hcb:∀ j,j≤T.length→0≤(addC cs r (cntV tree T j)).getD r 0∧(addC cs r (cntV tree T j)).getD r 0≤4000:=fun j hj=>by
          have h1:=addC_bd (r:=r) (k:=cntV tree T j) (M:=3200) (N:=400) (fun x hx=>⟨(hcs0 x hx).1,by have:=(hcs0 x hx).2; omega⟩) (by have:=cntV_le tree T j; omega) (by decide) (by decide)
          rw [List.getD_eq_getElem?_getD]
          cases hc:(addC cs r (cntV tree T j))[r]? with
          | none=>decide
          | some y =>
            have:=h1 y (List.mem_of_getElem? hc)
            exact ⟨this.1,by have:=this.2; simp only [Option.getD_some]; omega⟩
        refine awp_skip ?_
        refine awp_seq ?_
        refine awp_block ?_
        refine awp_seq ?_
        refine awpF_region ?_; intro K hK; simp only [push_cast,seval,hl,encLw,Int.toNat_natCast]; refine wKk hK ?_; clear hK K
        refine awp_seq ?_
        refine awpF_region ?_; intro K hK; simp only [push_cast,seval]
        refine wOb ?_
        refine CallK.rel h45 ?_
        rintro _ _ ⟨⟨a,b',Q,rfl,hok⟩,rfl⟩
        obtain ⟨rfl,P,rfl,hok2⟩:=hok rfl
        have hjud:=jud_all (T:=T) (by omega) hok2.1 hno (fun n hn h2=>cols_of (firstE_mem hs n hn) h2 htr) tree 0 ⟨t1,by rw [List.drop_zero,Nat.zero_add,← t2,List.drop_length,List.append_nil]⟩ (hok2.2.2 tree t1 t2)
        have h50:=p50 nodes P Q T
        simp only [push_cast,seval]
        refine wOb ?_
        refine hK _ ?_; clear hK K
        refine awp_seq ?_
        refine awpF_region ?_; intro K hK; simp only [push_cast,seval]
        refine wOb ?_
        refine CallK.rel h50 ?_
        rintro _ _ ⟨rfl,bq,cq,rfl⟩
        unfold jdK
        simp only [push_cast,seval]
        refine wOb ?_
        refine hK _ ?_; clear hK K
        refine awp_seq ?_
        refine wRg ?_
        refine awp_block ?_
        refine awp_loopP (α:=Nat × List (V × V)) (st:=fun x=>⟨[(1,.d (.int .i64 w)),(2,.d (.sl (T.map encR))),(6,.ptr 0 0 0),(8,.ptr 1 0 0),(12,.ptr 2 0 0),(15,.ptr 3 0 0),(31,.d (.sl (b.map encLw))),(32,.d (.int .i64 b.length)),(33,.d (.int .i64 i)),(48,.d (.int .i64 T.length)),(49,.d (.int .i64 x.1))],[.cells (cvs z10),.cells (cvs (addC cs r (cntV tree T x.1))),.cells [.d (.int .i64 r),.d (.sl (nodes.map encNd))],.cells [.d (.sl (nodes.map encNd)),.d (.sl (P.map encP2)),.d (.sl (Q.map encH)),.d (.sl (T.map encR)),.map 4],.mp x.2]⟩)
          (inv:=fun x=>x.1≤T.length∧EOK nodes T x.2) (μ:=fun x=>T.length - x.1) (x0:=(0,[])) (r0:=[0,1,2,7,6]) ⟨Nat.zero_le _,EOK.nil nodes T⟩ ?_ ?_
        · rw [cntV_zero,addC_zero cs r (by omega)]
          exact wRen
        rintro ⟨j,es⟩ ⟨hj,he⟩
        refine awp_seq ?_
        refine wRg ?_
        refine awp_seq ?_
        refine wCd ?_ ?_
        · intro h3; replace h3:=wHb h3
          have hjl:j<T.length:=by omega
          have hk:=p51k hjud hT4 (by rw [← t2]; omega) j (by omega) es he 4
          have hcs:=cntV_step tree T j
          unfold jdK at hk
          generalize vd tree T j=v at *
          have hal:(addC cs r (cntV tree T j)).length=10:=by rw [addC_len,hlen]
          have hset:(addC cs r (cntV tree T j)).set r ((addC cs r (cntV tree T j)).getD r 0+1)=addC cs r (cntV tree T j+1):=addC_set cs r (cntV tree T j) 1 (by omega)
          have hget:=cvs_get (addC cs r (cntV tree T j)) r (by omega)
          have hbd:0≤(addC cs r (cntV tree T j)).getD r 0∧(addC cs r (cntV tree T j)).getD r 0≤4000:=hcb j (by omega)
          generalize hg:(addC cs r (cntV tree T j)).getD r 0=g at *
          refine awp_skip ?_
          refine awp_mid (fun u=>∃ es',EOK nodes T es'∧u=⟨[(1,.d (.int .i64 w)),(2,.d (.sl (T.map encR))),(6,.ptr 0 0 0),(8,.ptr 1 0 0),(12,.ptr 2 0 0),(15,.ptr 3 0 0),(31,.d (.sl (b.map encLw))),(32,.d (.int .i64 b.length)),(33,.d (.int .i64 i)),(48,.d (.int .i64 T.length)),(49,.d (.int .i64 j))],[.cells (cvs z10),.cells (cvs (addC cs r (cntV tree T (j+1)))),.cells [.d (.int .i64 r),.d (.sl (nodes.map encNd))],.cells [.d (.sl (nodes.map encNd)),.d (.sl (P.map encP2)),.d (.sl (Q.map encH)),.d (.sl (T.map encR)),.map 4],.mp es']⟩) ?_ ?_
          · refine awp_block ?_
            refine awp_seq ?_
            refine wRg ?_
            refine awp_seq ?_
            refine awpF_regionH [2] ?_; intro K hK; simp only [push_cast,seval,List.zipIdx_cons,List.zipIdx_nil]
            refine HeapK.mk _ (hk _ _ rfl) ?_
            rintro _ _ ⟨rfl,es',rfl,he'⟩
            simp only [push_cast,seval,List.set_cons_succ,List.set_cons_zero]
            refine hK _ ?_; clear hK K
            refine wCd ?_ ?_
            · intro h4
              have h4':v=0:=by simpa using h4
              refine awpF_region ?_; intro K hK; simp only [push_cast,seval,Nat.mul_one,hget]; refine wKk hK ?_; clear hK K
              rw [if_pos h4'] at hcs
              rw [hcs,← hset]
              rw [if_neg (by rw [cvs_len,hal]; omega),cvs_put _ _ _ (by omega)]
              refine inblock_norm ?_
              refine mid_end [0,1,2,3,4] _ ⟨es',he',rfl⟩ ?_
              refine ⟨by simp,by simp,by simp [push_cast,seval,he'.ren],by simp [push_cast,seval],by simp [push_cast,seval],?_⟩
              simp [push_cast,seval]
              exact he'.bel2
            · intro h4
              have h4':v≠0:=by simpa using h4
              rw [if_neg h4',Nat.add_zero] at hcs
              rw [hcs]
              refine awp_skip ?_
              refine inblock_norm ?_
              refine mid_end [0,1,2,3,4] _ ⟨es',he',rfl⟩ ?_
              refine ⟨by simp,by simp,by simp [push_cast,seval,he'.ren],by simp [push_cast,seval],by simp [push_cast,seval],?_⟩
              simp [push_cast,seval]
              exact he'.bel2
          rintro _ ⟨es',he',rfl⟩
          refine wRg ?_
          refine round_endG (j+1,es') [0,1,2,3,4] ⟨by simp only; omega,⟨by simp only; omega,he'⟩,?_⟩
          push_cast
          refine ⟨by simp,by simp,by simp [push_cast,seval,he'.ren],by simp [push_cast,seval],by simp [push_cast,seval],?_⟩
          simp [push_cast,seval]
          exact he'.bel2
        · intro h3; replace h3:=wHb h3
          simp only at h3 hj
          obtain rfl:j=T.length:=by omega
          refine wEx ?_
          refine wRg ?_
          refine round_endG (i+1) [0,1] ⟨by omega,by omega,?_⟩
          rw [hstep]
          push_cast
          exact wRen
      · intro h2; replace h2:=wHb h2
        obtain rfl:i=b.length:=by omega
        rw [List.take_length]
        have hl0:=cvs_all (cs:=z10) rfl
        have hl1:=cvs_all (cs:=costL T b z10) (costL_len T b z10)
        have hl2:=cvs_none (cs:=z10) rfl
        have hl3:(costL T b z10).length=10:=costL_len T b z10
        refine wEx ?_
        refine awp_seq ?_
        refine awpF_region ?_; intro K hK; simp only [push_cast,seval,hl0,hl1,hl2,hl3,cvs_leaf,cvs_len,show z10.length=10 from rfl]; refine wKk hK ?_; clear hK K
        refine wRet ?_
        rw [hl1]
        exact deep_costs _ _
    · have e1:coE b w T=trE T w:=by rw [coE,hbe,if_neg (by simp)]
      have e2:coV b w T=z10:=by rw [coV,e1,if_neg htr]; rfl
      have hb1:(trE T w != 0)=true:=by simpa using htr
      rw [e1,e2]
      rw [hbe] at h96
      generalize trE T w=e at *
      refine pdv_of (fn:=Tryz.f55) [.cell 6 90,.tmp 7] (by kernel_rfl) rfl (by kernel_rfl) (Nat.le_of_ble_eq_true rfl) (by kernel_rfl) rfl ?_
      (repeat' (first | refine awp_seq ?_ | refine awp_skip ?_ | refine awp_block ?_ | ((first | (refine awpF_region ?_; intro K hK) | refine CallK.pd (h96) ?_ | refine CallK.pg (fun _=>h96) ?_ | refine CallK.pd (h20) ?_ | refine CallK.pg (fun _=>h20) ?_); simp only [push_cast,seval,bne_self_eq_false,hb1]; refine wObW ?_) | (refine hK _ ?_; clear hK K) | (refine wCd ?_ ?_) | (with_reducible intro hb; exfalso; revert hb; simp [bne_self_eq_false,hb1]; done) | (with_reducible intro hb; exfalso; replace hb:=wHb hb; omega; done) | (with_reducible intro hb; replace hb:=wHb hb) | (refine wEx ?_) | (refine wRp ?_; refine fin_of (by simp only [push_cast,seval,bne_self_eq_false,hb1]; first | done | rfl) ob1 ?_) | (refine inblock_norm ?_)))
      exact deep_costs (z10) _
  · have e1:coE b w T=bkE b w:=by rw [coE,if_pos hbe]
    have e2:coV b w T=z10:=by rw [coV,e1,if_neg hbe]; rfl
    have hb1:(bkE b w != 0)=true:=by simpa using hbe
    rw [e1,e2]
    generalize bkE b w=e at *
    refine pdv_of (fn:=Tryz.f55) [.cell 6 90,.tmp 7] (by kernel_rfl) rfl (by kernel_rfl) (Nat.le_of_ble_eq_true rfl) (by kernel_rfl) rfl ?_
    (repeat' (first | refine awp_seq ?_ | refine awp_skip ?_ | refine awp_block ?_ | ((first | (refine awpF_region ?_; intro K hK) | refine CallK.pd (h96) ?_ | refine CallK.pg (fun _=>h96) ?_); simp only [push_cast,seval,hb1]; refine wObW ?_) | (refine hK _ ?_; clear hK K) | (refine wCd ?_ ?_) | (with_reducible intro hb; exfalso; revert hb; simp [hb1]; done) | (with_reducible intro hb; exfalso; replace hb:=wHb hb; omega; done) | (with_reducible intro hb; replace hb:=wHb hb) | (refine wEx ?_) | (refine wRp ?_; refine fin_of (by simp only [push_cast,seval,hb1]; first | done | rfl) ob1 ?_) | (refine inblock_norm ?_)))
    exact deep_costs (z10) _
end Go.Aw
