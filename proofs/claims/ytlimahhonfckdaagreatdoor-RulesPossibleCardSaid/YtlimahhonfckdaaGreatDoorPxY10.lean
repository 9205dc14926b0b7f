/-
  The reference's Possible: equal rows,what is asked of a formula,a plant and rows,what is possible. Conditions: lengths that fit.
-/
import Derived.Test.YtlimahhonfckdaaGreatDoorPxY9
import Derived.Test.YtlimahhonfckdaaGreatDoorRuH
import Derived.Test.YtlimahhonfckdaaGreatDoorRuL
namespace Go.Aw
set_option linter.unusedSimpArgs false
set_option linter.unusedVariables false
open Go.RowKit Go.Proofs
set_option maxRecDepth 100000

theorem q96 (a b:List Int) (hl:b.length=a.length) (ha:a.length≤1000000) : PD Tryz.prog 96 [.sl (a.map encI),.sl (b.map encI)] (.d (.bool (decide (a=b)))):=by
  have hqa:∀ row,row∈a.map encI→row.length=1:=fun row hr=>by obtain ⟨_,_,rfl⟩:=List.mem_map.1 hr; rfl
  have hqb:∀ row,row∈b.map encI→row.length=1:=fun row hr=>by obtain ⟨_,_,rfl⟩:=List.mem_map.1 hr; rfl
  refine pd_of (fn:=Tryz.f96) [.tmp 4] (by kernel_rfl) rfl (by kernel_rfl) (Nat.le_of_ble_eq_true rfl) (by kernel_rfl) rfl rfl ?_
  refine awp_seq ?_
  refine wRg ?_
  refine awp_seq ?_
  refine awp_seq ?_
  refine wRg ?_
  refine awp_block ?_
  refine awp_loopP (α:=Nat) (st:=fun i=>⟨[(0,.d (.sl (a.map encI))),(1,.d (.sl (b.map encI))),(5,.d (.int .i64 i))],[]⟩)
    (inv:=fun i=>i≤a.length∧∀ j,j<i→a[j]? = b[j]?) (μ:=fun i=>a.length - i) (x0:=0) (r0:=[]) ⟨Nat.zero_le _,fun j hj=>absurd hj (Nat.not_lt_zero j)⟩ ?_ ?_
  · exact wRen
  rintro i ⟨hi,he⟩
  refine awp_seq ?_
  refine awp_seq ?_
  refine wRg ?_
  refine wCd ?_ ?_
  · intro h1; replace h1:=wHb h1
    have hlt:i<a.length:=by omega
    obtain ⟨x,hx⟩ : ∃ x,a[i]? = some x:=⟨_,List.getElem?_eq_getElem hlt⟩
    obtain ⟨y,hy⟩ : ∃ y,b[i]? = some y:=⟨_,List.getElem?_eq_getElem (by omega)⟩
    refine awp_skip ?_
    refine awp_seq ?_
    refine awp_block ?_
    refine awp_seq ?_
    refine awpF_draw [0,1,2,3,4,5,6,7,8] (by kernel_rfl) (by kernel_rfl) rfl ?_; intro K hK; simp only [push_cast,seval,hx,hy,encI,Int.toNat_natCast]
    refine wOb ?_
    refine hK _ ?_; clear hK K
    by_cases hxy:x=y
    · have d1:(x != y)=false:=by rw [hxy]; exact bne_self_eq_false y
      rw [d1]
      refine wCd ?_ ?_
      · intro h; cases h
      intro _
      refine awp_skip ?_
      refine inblock_norm ?_
      refine wRg ?_
      refine round_endG (i+1) [] ⟨by omega,⟨by omega,fun j hj => ?_⟩,?_⟩
      · rcases Nat.lt_or_ge j i with h | h
        · exact he j h
        · obtain rfl:j=i:=by omega
          rw [hx,hy,hxy]
      · push_cast
        exact wRen
    · have d1:(x != y)=true:=by simpa using hxy
      rw [d1]
      have hne:decide (a=b)=false:=decide_eq_false fun e=>by
        rw [e,hy] at hx
        exact hxy (Option.some.inj hx).symm
      refine wCd ?_ ?_
      · intro _
        refine awp_seq ?_
        refine wRg ?_
        refine wRet ?_
        rw [hne]
      · intro h; cases h
  · intro h1; replace h1:=wHb h1
    obtain rfl:i=a.length:=by omega
    have heq:decide (a=b)=true:=decide_eq_true (List.ext_getElem? fun j=>by
      rcases Nat.lt_or_ge j a.length with h | h
      · exact he j h
      · rw [List.getElem?_eq_none h,List.getElem?_eq_none (by omega)])
    rw [heq]
    refine wEx ?_
    refine awp_seq ?_
    refine wRg ?_
    refine wRet ?_
    rfl
theorem any_eq_can {p:List Ch} {a b:List Int} (hp:∀ c,c∈p→okCh c) (ha:a.length=p.length) (hb:b.length=p.length) : (folV p a).any (fun r=>decide (r=b))=canV p a b:=by
  have h:=canV_iff p a b hp ha hb
  cases hc:canV p a b with
  | true =>
    rw [List.any_eq_true]
    exact ⟨b,h.1 hc,by simp⟩
  | false =>
    rw [List.any_eq_false]
    intro r hr e
    have:r=b:=by simpa using e
    rw [this] at hr
    rw [h.2 hr] at hc
    cases hc
theorem any_take {L:List (List Int)} {g:List Int→Bool} {k:Nat} {r:List Int} (h:L[k]? = some r) : (L.take (k+1)).any g=((L.take k).any g||g r):=by
  rw [List.take_add_one,h,List.any_append]
  simp
set_option maxHeartbeats 4000000 in
theorem q64 (f:List Nd) (p:List Ch) (t:Fm) (T:List (List Int)) (hf:f.length≤1000000) (hpl:p.length≤1000000) (hTl:T.length≤1000000) (ht:shE f p.length=0→t.wf∧f=t.flat) :
    PD Tryz.prog 64 [.sl (f.map encNd),.sl (p.map encCh),.sl (T.map encR)] (.d (.int .i64 (reE f p t T))):=by
  have h33:=p33 p hpl
  have h17:=p17 f p.length t hf ht
  have h21:=p21 T p.length
  have hq:∀ row,row∈T.map encR→row.length=1:=fun row hr=>by obtain ⟨_,_,rfl⟩:=List.mem_map.1 hr; rfl
  have hE:reE f p t T=if plE p≠0 then plE p else if chkE f p.length t≠0 then chkE f p.length t else if trE T p.length≠0 then trE T p.length else
    if T=[] then 6 else if 6561<szA (numC p 1) t.hz.toNat 1 then 8 else if chainB p T=true then 0 else 10:=rfl
  by_cases h1:plE p=0
  · rw [if_neg (by simpa using h1)] at hE
    rw [h1] at h33
    by_cases h2:chkE f p.length t=0
    · rw [if_neg (by simpa using h2)] at hE
      rw [h2] at h17
      by_cases h3:trE T p.length=0
      · rw [if_neg (by simpa using h3)] at hE
        rw [h3] at h21
        by_cases h4:T=[]
        · rw [if_pos h4] at hE
          rw [hE]
          have d4:((T.length:Int)==0)=true:=by rw [h4]; rfl
          refine pd_of (fn:=Tryz.f64) [.tmp 6] (by kernel_rfl) rfl (by kernel_rfl) (Nat.le_of_ble_eq_true rfl) (by kernel_rfl) rfl rfl ?_
          (repeat' (first | refine awp_seq ?_ | refine awp_skip ?_ | refine awp_block ?_ | ((first | (refine awpF_region ?_; intro K hK) | (refine awpF_draw (id:=27) [0,1,2,3,4,5,6,7,8,9,10,11,12,13] (by kernel_rfl) (by kernel_rfl) rfl ?_; intro K hK) | refine CallK.pd (h33) ?_ | refine CallK.pg (fun _=>h33) ?_ | refine CallK.pd (h17) ?_ | refine CallK.pg (fun _=>h17) ?_ | refine CallK.pd (h21) ?_ | refine CallK.pg (fun _=>h21) ?_); simp only [push_cast,seval,bne_self_eq_false,d4]; refine wObW ?_) | (refine hK _ ?_; clear hK K) | (refine wCd ?_ ?_) | (with_reducible intro hb; exfalso; revert hb; simp [bne_self_eq_false,d4]; done) | (with_reducible intro hb; exfalso; replace hb:=wHb hb; omega; done) | (with_reducible intro hb; replace hb:=wHb hb) | (refine wEx ?_) | (refine wRp ?_; refine fin_of (by simp only [push_cast,seval,bne_self_eq_false,d4]; first | done | rfl) ob1 ?_) | (refine inblock_norm ?_)))
          rfl
        rw [if_neg h4] at hE
        have d4:((T.length:Int)==0)=false:=beq_eq_false_iff_ne.2 (by have:=List.length_pos_iff.2 h4; omega)
        have hT1:=List.length_pos_iff.2 h4
        obtain ⟨hp1,hp2,hpok,hp9⟩:=pl_ok h1
        have hnum:=numC_bd p 1 hpok (by decide)
        have h58:=p58 p hpok (by omega)
        obtain ⟨t1,t2⟩:=ht (chk_sh h2)
        obtain ⟨hf40,hno,_⟩:=sh_facts (chk_sh h2)
        have h47:=p47f (chk_sh h2) ⟨t1,t2⟩
        have hz60:=chk_hz h2
        have hz0:=(hz_bd t t1 fun n hn=>hno n (by rw [t2]; exact hn)).1
        obtain ⟨hz,hhz⟩ : ∃ hz:Nat,t.hz=hz:=⟨t.hz.toNat,by omega⟩
        obtain ⟨_,_,hT4,hrows⟩:=tr_facts h3
        have hcd:=fun (i:Nat) (a b:List Int)=>chainB_drop (p:=p) (T:=T) (i:=i) (a:=a) (b:=b)
        have hce:=fun (i:Nat)=>chainB_end (p:=p) (T:=T) (i:=i)
        have h56:∀ a,a∈T→PD Tryz.prog 87 [.sl (p.map encCh),.sl (a.map encI)] (.d (.sl ((folV p a).map encR))):=fun a ha=>by
          have ra:=hrows a ha
          exact p56 p a h1 (by omega) ra.2
        have hany:∀ a b,a∈T→b∈T→(folV p a).any (fun r=>decide (r=b))=canV p a b:=fun a b ha hb=>by
          have ra:=hrows a ha
          have rb:=hrows b hb
          exact any_eq_can hpok (by omega) (by omega)
        have h96:∀ a b r,a∈T→b∈T→r∈folV p a→PD Tryz.prog 96 [.sl (r.map encI),.sl (b.map encI)] (.d (.bool (decide (r=b)))):=fun a b r ha hb hr=>by
          have ra:=hrows a ha
          have rb:=hrows b hb
          have rr:=folV_row p a hpok (by omega) r hr
          exact q96 r b (by omega) (by omega)
        have h9:∀ a,a∈T→(folV p a).length≤9:=fun a ha=>by
          have ra:=hrows a ha
          exact (folV_len (row:=a) h1 (by omega)).2
        rw [hhz,Int.toNat_natCast] at hE
        rw [hhz] at h47
        generalize numC p 1=c at *
        refine pd_of (fn:=Tryz.f64) [.tmp 6] (by kernel_rfl) rfl (by kernel_rfl) (Nat.le_of_ble_eq_true rfl) (by kernel_rfl) rfl rfl ?_
        (repeat' (first | refine awp_seq ?_ | refine awp_skip ?_ | refine awp_block ?_ | ((first | ((fail_if_success refine awpF_region (id:=12) ?_); refine awpF_region ?_; intro K hK) | (refine awpF_draw (id:=27) [0,1,2,3,4,5,6,7,8,9,10,11,12,13] (by kernel_rfl) (by kernel_rfl) rfl ?_; intro K hK) | refine CallK.pd (h33) ?_ | refine CallK.pg (fun _=>h33) ?_ | refine CallK.pd (h17) ?_ | refine CallK.pg (fun _=>h17) ?_ | refine CallK.pd (h21) ?_ | refine CallK.pg (fun _=>h21) ?_); simp only [push_cast,seval,bne_self_eq_false,d4]; refine wObW ?_) | (refine hK _ ?_; clear hK K) | (refine wCd ?_ ?_) | (with_reducible intro hb; exfalso; revert hb; simp [bne_self_eq_false,d4]; done) | (with_reducible intro hb; exfalso; replace hb:=wHb hb; omega; done) | (with_reducible intro hb; replace hb:=wHb hb) | (refine wEx ?_) | (refine wRp ?_; refine fin_of (by simp only [push_cast,seval,bne_self_eq_false,d4]; first | done | rfl) ob1 ?_) | (refine inblock_norm ?_)))
        refine wRg ?_
        refine awp_seq ?_
        refine awp_seq ?_
        refine wRg ?_
        refine awp_block ?_
        refine awp_loopP (α:=Nat × Int) (st:=fun x=>⟨[(0,.d (.sl (f.map encNd))),(1,.d (.sl (p.map encCh))),(2,.d (.sl (T.map encR))),(10,.d (.int .i64 x.2)),(11,.d (.int .i64 x.1))],[]⟩)
          (inv:=fun x=>x.1≤hz∧(1≤x.2∧x.2≤6562)∧szA c (hz - x.1) x.2=szA c hz 1) (μ:=fun x=>hz - x.1) (x0:=(0,1)) (r0:=[]) ⟨Nat.zero_le _,by omega,rfl⟩ ?_ ?_
        · exact wRen
        rintro ⟨i,n⟩ ⟨hi,hn,hinv⟩
        dsimp only at hi hn hinv ⊢
        refine awp_seq ?_
        refine awp_seq ?_
        refine awpF_region ?_; intro K hK; simp only [push_cast,seval]
        refine CallK.pd (h47) ?_; refine wXo ?_
        refine hK _ ?_; clear hK K
        refine wCd ?_ ?_
        · intro h5; replace h5:=wHb h5
          have hm:=szA_mul (c:=c) (n:=n) (by omega) hn
          have e3:IntKind.i64.wrap (n*c)=n*c:=wrapI _ (by omega)
          have hst:szA c (hz - (i+1)) (min (n*c) 6562)=szA c (hz - i) n:=by
            rw [show hz - i=hz - (i+1)+1 by omega,szA]
          rw [hinv] at hst
          generalize hpr:n*c=pr at *
          refine awp_skip ?_
          refine awp_seq ?_
          refine awp_block ?_
          refine awpF_region ?_; intro K hK; simp only [push_cast,seval]
          refine wOb ?_
          refine CallK.pd (h58) ?_; refine wXo ?_
          simp only [push_cast,seval,e3,hpr]
          refine wOb ?_
          refine hK _ ?_; clear hK K
          refine inblock_norm ?_
          refine wRg ?_
          refine round_endG (i+1,min pr 6562) [] ⟨by show hz - (i+1)<hz - i; omega,⟨by show i+1≤hz; omega,by show 1≤min pr 6562∧min pr 6562≤6562; omega,hst⟩,?_⟩
          push_cast
          exact wRen
        · intro h5; replace h5:=wHb h5
          obtain rfl:i=hz:=by omega
          rw [Nat.sub_self,szA] at hinv
          rw [← hinv] at hE
          refine wEx ?_
          refine awp_seq ?_
          refine awp_seq ?_
          refine wRg ?_
          by_cases h6:6561<n
          · rw [if_pos h6] at hE
            rw [hE]
            have d6:decide (n > 6561)=true:=decide_eq_true h6
            refine wCd ?_ ?_
            · intro _
              refine awp_seq ?_
              refine wRg ?_
              refine wRet ?_
              rfl
            · intro h; rw [d6] at h; cases h
          rw [if_neg h6] at hE
          have d6:decide (n > 6561)=false:=decide_eq_false h6
          refine wCd ?_ ?_
          · intro h; rw [d6] at h; cases h
          intro _
          refine awp_skip ?_
          refine awp_seq ?_
          refine awp_seq ?_
          refine wRg ?_
          refine awp_block ?_
          refine awp_loopP (α:=Nat) (st:=fun k=>⟨[(1,.d (.sl (p.map encCh))),(2,.d (.sl (T.map encR))),(12,.d (.int .i64 k))],[]⟩)
            (inv:=fun k=>k+1≤T.length∧chainB p T=chainB p (T.drop k)) (μ:=fun k=>T.length - k) (x0:=0) (r0:=[]) ⟨by omega,by rw [List.drop_zero]⟩ ?_ ?_
          · exact wRen
          rintro k ⟨hk,hc⟩
          refine awp_seq ?_
          refine awp_seq ?_
          refine wRg ?_
          refine wCd ?_ ?_
          · intro h7; replace h7:=wHb h7
            have hlt:k+1<T.length:=by omega
            obtain ⟨x,hx⟩ : ∃ x,T[k]? = some x:=⟨_,List.getElem?_eq_getElem (by omega)⟩
            obtain ⟨y,hy⟩ : ∃ y,T[k+1]? = some y:=⟨_,List.getElem?_eq_getElem hlt⟩
            have hxm:=List.mem_of_getElem? hx
            have hym:=List.mem_of_getElem? hy
            have k56:=h56 x hxm
            have k96:=fun r=>h96 x y r hxm hym
            have kany:=hany x y hxm hym
            have k9:=h9 x hxm
            have kcd:=hcd k x y hx hy
            have wk:IntKind.i64.wrap ((k:Int)+1)=(k:Int)+1:=wrapI _ (by omega)
            have tk:((k:Int)+1).toNat=k+1:=by omega
            generalize canV p x y=cv at *
            generalize hL:folV p x=L at *
            have hqL:∀ row,row∈L.map encR→row.length=1:=fun row hr=>by obtain ⟨_,_,rfl⟩:=List.mem_map.1 hr; rfl
            refine awp_skip ?_
            refine awp_seq ?_
            refine awp_block ?_
            refine awp_seq ?_
            refine awpF_region ?_; intro K hK; simp only [push_cast,seval,hx,encR,Int.toNat_natCast]
            refine wOb ?_
            refine CallK.pd (k56) ?_; refine wXo ?_
            refine hK _ ?_; clear hK K
            refine awp_seq ?_
            refine wRg ?_
            refine awp_seq ?_
            refine awp_seq ?_
            refine wRg ?_
            refine awp_block ?_
            refine awp_loopP (α:=Nat) (st:=fun j=>⟨[(1,.d (.sl (p.map encCh))),(2,.d (.sl (T.map encR))),(12,.d (.int .i64 k)),(13,.d (.sl (L.map encR))),(14,.d (.bool ((L.take j).any fun r=>decide (r=y)))),(15,.d (.int .i64 j))],[]⟩)
              (inv:=fun j=>j≤L.length) (μ:=fun j=>L.length - j) (x0:=0) (r0:=[]) (Nat.zero_le _) ?_ ?_
            · simp only [List.take_zero,List.any_nil]
              exact wRen
            intro j hj
            refine awp_seq ?_
            refine awp_seq ?_
            refine wRg ?_
            refine wCd ?_ ?_
            · intro h8; replace h8:=wHb h8
              have hjl:j<L.length:=by omega
              obtain ⟨r,hr⟩ : ∃ r,L[j]? = some r:=⟨_,List.getElem?_eq_getElem hjl⟩
              have kk:=k96 r (List.mem_of_getElem? hr)
              have hat:=any_take (g:=fun r=>decide (r=y)) hr
              generalize (L.take j).any (fun r=>decide (r=y))=bj at *
              generalize hbj:(L.take (j+1)).any (fun r=>decide (r=y))=bj' at *
              generalize decide (r=y)=by' at *
              refine awp_skip ?_
              refine awp_seq ?_
              refine awp_block ?_
              cases bj with
              | true =>
                rw [Bool.true_or] at hat
                refine awpF_draw [0,1,2,3,4,5,6,7,8,9,10,11,12,13] (by kernel_rfl) (by kernel_rfl) rfl ?_; intro K hK; simp only [push_cast,seval,hr,hy,encR,wk,tk,Int.toNat_natCast]
                refine wOb ?_
                refine CallK.pg (x0:=.d (.bool false)) (fun h=>by cases h) ?_
                simp only [push_cast,seval]
                refine wOb ?_
                refine hK _ ?_; clear hK K
                refine inblock_norm ?_
                refine wRg ?_
                refine round_endG (j+1) [] ⟨by omega,by omega,?_⟩
                rw [hbj,hat]
                push_cast
                exact wRen
              | false =>
                rw [Bool.false_or] at hat
                refine awpF_draw [0,1,2,3,4,5,6,7,8,9,10,11,12,13] (by kernel_rfl) (by kernel_rfl) rfl ?_; intro K hK; simp only [push_cast,seval,hr,hy,encR,wk,tk,Int.toNat_natCast]
                refine wOb ?_
                refine CallK.pg (fun _=>kk) ?_; refine wXo ?_
                refine hK _ ?_; clear hK K
                refine inblock_norm ?_
                refine wRg ?_
                refine round_endG (j+1) [] ⟨by omega,by omega,?_⟩
                rw [hbj,hat]
                push_cast
                exact wRen
            · intro h8; replace h8:=wHb h8
              obtain rfl:j=L.length:=by omega
              rw [List.take_length,kany]
              refine wEx ?_
              refine awp_seq ?_
              refine wRg ?_
              cases cv with
              | false =>
                rw [Bool.false_and] at kcd
                rw [hc,kcd,if_neg (by decide)] at hE
                rw [hE]
                refine wCd ?_ ?_
                · intro _
                  refine awp_seq ?_
                  refine wRg ?_
                  refine wRet ?_
                  rfl
                · intro h; cases h
              | true =>
                rw [Bool.true_and] at kcd
                refine wCd ?_ ?_
                · intro h; cases h
                intro _
                refine awp_skip ?_
                refine inblock_norm ?_
                refine wRg ?_
                refine round_endG (k+1) [] ⟨by omega,⟨by omega,by rw [hc,kcd]⟩,?_⟩
                push_cast
                exact wRen
          · intro h7; replace h7:=wHb h7
            rw [hc,hce k (by omega),if_pos rfl] at hE
            rw [hE]
            refine wEx ?_
            refine awp_seq ?_
            refine wRg ?_
            refine wRet ?_
            rfl
      · rw [if_pos (by simpa using h3)] at hE
        rw [hE]
        have hb1:(trE T p.length != 0)=true:=by simpa using h3
        generalize trE T p.length=e at *
        refine pd_of (fn:=Tryz.f64) [.tmp 6] (by kernel_rfl) rfl (by kernel_rfl) (Nat.le_of_ble_eq_true rfl) (by kernel_rfl) rfl rfl ?_
        (repeat' (first | refine awp_seq ?_ | refine awp_skip ?_ | refine awp_block ?_ | ((first | (refine awpF_region ?_; intro K hK) | (refine awpF_draw (id:=27) [0,1,2,3,4,5,6,7,8,9,10,11,12,13] (by kernel_rfl) (by kernel_rfl) rfl ?_; intro K hK) | refine CallK.pd (h33) ?_ | refine CallK.pg (fun _=>h33) ?_ | refine CallK.pd (h17) ?_ | refine CallK.pg (fun _=>h17) ?_ | refine CallK.pd (h21) ?_ | refine CallK.pg (fun _=>h21) ?_); simp only [push_cast,seval,bne_self_eq_false,hb1]; refine wObW ?_) | (refine hK _ ?_; clear hK K) | (refine wCd ?_ ?_) | (with_reducible intro hb; exfalso; revert hb; simp [bne_self_eq_false,hb1]; done) | (with_reducible intro hb; exfalso; replace hb:=wHb hb; omega; done) | (with_reducible intro hb; replace hb:=wHb hb) | (refine wEx ?_) | (refine wRp ?_; refine fin_of (by simp only [push_cast,seval,bne_self_eq_false,hb1]; first | done | rfl) ob1 ?_) | (refine inblock_norm ?_)))
        rfl
    · rw [if_pos (by simpa using h2)] at hE
      rw [hE]
      have hb1:(chkE f p.length t != 0)=true:=by simpa using h2
      generalize chkE f p.length t=e at *
      refine pd_of (fn:=Tryz.f64) [.tmp 6] (by kernel_rfl) rfl (by kernel_rfl) (Nat.le_of_ble_eq_true rfl) (by kernel_rfl) rfl rfl ?_
      (repeat' (first | refine awp_seq ?_ | refine awp_skip ?_ | refine awp_block ?_ | ((first | (refine awpF_region ?_; intro K hK) | (refine awpF_draw (id:=27) [0,1,2,3,4,5,6,7,8,9,10,11,12,13] (by kernel_rfl) (by kernel_rfl) rfl ?_; intro K hK) | refine CallK.pd (h33) ?_ | refine CallK.pg (fun _=>h33) ?_ | refine CallK.pd (h17) ?_ | refine CallK.pg (fun _=>h17) ?_); simp only [push_cast,seval,bne_self_eq_false,hb1]; refine wObW ?_) | (refine hK _ ?_; clear hK K) | (refine wCd ?_ ?_) | (with_reducible intro hb; exfalso; revert hb; simp [bne_self_eq_false,hb1]; done) | (with_reducible intro hb; exfalso; replace hb:=wHb hb; omega; done) | (with_reducible intro hb; replace hb:=wHb hb) | (refine wEx ?_) | (refine wRp ?_; refine fin_of (by simp only [push_cast,seval,bne_self_eq_false,hb1]; first | done | rfl) ob1 ?_) | (refine inblock_norm ?_)))
      rfl
  · rw [if_pos (by simpa using h1)] at hE
    rw [hE]
    have hb1:(plE p != 0)=true:=by simpa using h1
    generalize plE p=e at *
    refine pd_of (fn:=Tryz.f64) [.tmp 6] (by kernel_rfl) rfl (by kernel_rfl) (Nat.le_of_ble_eq_true rfl) (by kernel_rfl) rfl rfl ?_
    (repeat' (first | refine awp_seq ?_ | refine awp_skip ?_ | refine awp_block ?_ | ((first | (refine awpF_region ?_; intro K hK) | (refine awpF_draw (id:=27) [0,1,2,3,4,5,6,7,8,9,10,11,12,13] (by kernel_rfl) (by kernel_rfl) rfl ?_; intro K hK) | refine CallK.pd (h33) ?_ | refine CallK.pg (fun _=>h33) ?_); simp only [push_cast,seval,hb1]; refine wObW ?_) | (refine hK _ ?_; clear hK K) | (refine wCd ?_ ?_) | (with_reducible intro hb; exfalso; revert hb; simp [hb1]; done) | (with_reducible intro hb; exfalso; replace hb:=wHb hb; omega; done) | (with_reducible intro hb; replace hb:=wHb hb) | (refine wEx ?_) | (refine wRp ?_; refine fin_of (by simp only [push_cast,seval,hb1]; first | done | rfl) ob1 ?_) | (refine inblock_norm ?_)))
    rfl
end Go.Aw
