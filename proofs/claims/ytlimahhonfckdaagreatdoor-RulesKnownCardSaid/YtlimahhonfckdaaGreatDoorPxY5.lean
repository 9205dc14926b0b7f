/-
  Possible rules on the program's side: rows that can follow,clones,what is possible. Conditions: a valid plant,lengths that fit.
-/
import Derived.Test.YtlimahhonfckdaaGreatDoorPxU80
import Derived.Test.YtlimahhonfckdaaGreatDoorRuE
import Derived.Test.YtlimahhonfckdaaGreatDoorPxU72
import Derived.Test.YtlimahhonfckdaaGreatDoorPxV10
namespace Go.Aw
set_option linter.unusedSimpArgs false
set_option linter.unusedVariables false
open Go.RowKit Go.Proofs
set_option maxRecDepth 100000

theorem canV_drop {p:List Ch} {a b:List Int} {c:Ch} {v x:Int} {k:Nat} (hc:p[k]? = some c) (hv:a[k]? = some v) (hx:b[k]? = some x) :
    canV (p.drop k) (a.drop k) (b.drop k)=(decide (chV c v c.lo≤x∧x≤chV c v c.hi)&&canV (p.drop (k+1)) (a.drop (k+1)) (b.drop (k+1))):=by
  have h1:=(List.getElem?_eq_some_iff.1 hc).1
  have h2:=(List.getElem?_eq_some_iff.1 hv).1
  have h3:=(List.getElem?_eq_some_iff.1 hx).1
  rw [List.drop_eq_getElem_cons h1,List.drop_eq_getElem_cons h2,List.drop_eq_getElem_cons h3,show p[k]=c from (List.getElem?_eq_some_iff.1 hc).2,show a[k]=v from (List.getElem?_eq_some_iff.1 hv).2,show b[k]=x from (List.getElem?_eq_some_iff.1 hx).2,canV]
set_option maxHeartbeats 1000000 in
theorem q92 (p:List Ch) (a b:List Int) (hp:∀ c,c∈p→okCh c) (hpl:p.length≤1000) (ha:a.length=p.length) (hb:b.length=p.length) (hva:∀ x,x∈a→inV x=true) : PD Tryz.prog 92 [.sl (p.map encCh),.sl (a.map encI),.sl (b.map encI)] (.d (.bool (canV p a b))):=by
  have hq:∀ row,row∈p.map encCh→row.length=5:=fun row hr=>by obtain ⟨_,_,rfl⟩:=List.mem_map.1 hr; rfl
  refine pd_of (fn:=Tryz.f92) [.tmp 6] (by kernel_rfl) rfl (by kernel_rfl) (Nat.le_of_ble_eq_true rfl) (by kernel_rfl) rfl rfl ?_
  refine awp_seq ?_
  refine wRg ?_
  refine awp_seq ?_
  refine awp_seq ?_
  refine wRg ?_
  refine awp_block ?_
  refine awp_loopP (α:=Nat) (st:=fun k=>⟨[(1,.d (.sl (a.map encI))),(2,.d (.sl (b.map encI))),(11,.d (.sl (p.map encCh))),(12,.d (.int .i64 p.length)),(13,.d (.int .i64 k))],[]⟩)
    (inv:=fun k=>k≤p.length∧canV p a b=canV (p.drop k) (a.drop k) (b.drop k)) (μ:=fun k=>p.length - k) (x0:=0) (r0:=[]) ⟨Nat.zero_le _,by rw [List.drop_zero,List.drop_zero,List.drop_zero]⟩ ?_ ?_
  · exact wRen
  rintro k ⟨hk,he⟩
  refine awp_seq ?_
  refine wRg ?_
  refine awp_seq ?_
  refine wCd ?_ ?_
  · intro h1; replace h1:=wHb h1
    have hlt:k<p.length:=by omega
    obtain ⟨c,hc⟩ : ∃ c,p[k]? = some c:=⟨_,List.getElem?_eq_getElem hlt⟩
    obtain ⟨v,hv⟩ : ∃ v,a[k]? = some v:=⟨_,List.getElem?_eq_getElem (by omega)⟩
    obtain ⟨x,hx⟩ : ∃ x,b[k]? = some x:=⟨_,List.getElem?_eq_getElem (by omega)⟩
    have hst:=canV_drop hc hv hx
    have hok:=hp c (List.mem_of_getElem? hc)
    have hvb:=hva v (List.mem_of_getElem? hv)
    simp only [inV,decide_eq_true_eq] at hvb
    have hok':=hok
    unfold okCh inC inV' at hok'
    have h1c:=p85 c v c.lo (by omega)
    have h2c:=p85 c v c.hi (by omega)
    have e1:decide (x<chV c v c.lo) = !decide (chV c v c.lo≤x):=by
      by_cases h:x<chV c v c.lo
      · rw [decide_eq_true h,decide_eq_false (by omega)]; rfl
      · rw [decide_eq_false h,decide_eq_true (by omega)]; rfl
    generalize chV c v c.lo=u1 at *
    generalize chV c v c.hi=u2 at *
    simp only [encCh] at h1c h2c
    refine awp_skip ?_
    refine awp_seq ?_
    refine awp_block ?_
    refine awp_seq ?_
    refine awpF_region ?_; intro K hK; simp only [push_cast,seval,hc,encCh,Int.toNat_natCast]; refine wKk hK ?_; clear hK K
    refine awp_seq ?_
    refine awpF_drawP [0,1,2,3,4,5,6,8,9,10,11,12,13,14] [7,15] (DT.op 16 (DT.op 17 DT.nil)) (by kernel_rfl) (by kernel_rfl) (by kernel_rfl) ?_; intro K hK; simp only [push_cast,seval,hv,encI,Int.toNat_natCast]; (repeat ((with_reducible refine And.intro ?_ ?_); (focus (exact ob1)))); refine ParK.pd (h1c) (by first | rfl | simp [V.bel,V.belL]) ?_; simp only [push_cast,seval,hv,encI,Int.toNat_natCast]; (try simp (disch:=omega) only [wrapI]); (repeat ((with_reducible refine And.intro ?_ ?_); (focus (exact ob1)))); refine ParK.pd (h2c) (by first | rfl | simp [V.bel,V.belL]) ?_; simp only [push_cast,seval,hv,encI,Int.toNat_natCast]; (try simp (disch:=omega) only [wrapI]); (repeat ((with_reducible refine And.intro ?_ ?_); (focus (exact ob1)))); refine hK _ ?_; clear hK K
    refine awp_seq ?_
    refine awpF_region ?_; intro K hK; simp only [push_cast,seval,hx,encI,Int.toNat_natCast]
    generalize e2:decide (x<u1)=b1
    generalize e3:decide (x > u2)=b2
    repeat ((with_reducible refine And.intro ?_ ?_); (focus (first | (exact ob1) | (cases b1 <;> simp; done))))
    refine hK _ ?_; clear hK K
    have hb:(bif b1 then true else b2) = !decide (u1≤x∧x≤u2):=by
      rw [← e2,← e3]
      by_cases h4:x<u1 <;> by_cases h5:x > u2 <;> simp [h4,h5] <;> omega
    rw [hb]
    clear e2 e3
    by_cases hin:u1≤x∧x≤u2
    · rw [decide_eq_true hin]
      rw [decide_eq_true hin,Bool.true_and] at hst
      refine wCd ?_ ?_
      · intro h; cases h
      intro _
      refine awp_skip ?_
      refine inblock_norm ?_
      refine wRg ?_
      refine round_endG (k+1) [] ⟨by omega,⟨by omega,by rw [he,hst]⟩,?_⟩
      push_cast
      exact wRen
    · rw [decide_eq_false hin]
      rw [decide_eq_false hin,Bool.false_and] at hst
      refine wCd ?_ ?_
      · intro _
        refine awp_seq ?_
        refine wRg ?_
        refine wRet ?_
        rw [he,hst]
      · intro h; cases h
  · intro h1; replace h1:=wHb h1
    obtain rfl:k=p.length:=by omega
    rw [List.drop_length,show canV [] (a.drop p.length) (b.drop p.length)=true from by cases a.drop p.length <;> rfl] at he
    rw [he]
    refine wEx ?_
    refine awp_seq ?_
    refine wRg ?_
    refine wRet ?_
    rfl
theorem encR_row {l:List (List Int)} {row:List D} (h:row∈l.map encR) : row.length=1∧row.all D.leaf=true:=by
  obtain ⟨x,_,rfl⟩:=List.mem_map.1 h; exact ⟨rfl,rfl⟩
theorem q94 (l:List (List Int)) (hn:l.length≤1000000) : PC Tryz.prog 94 [.sl (l.map encR)] fun x H=>x=.ref 0 0 l.length∧H=[.data 1 (l.map encR)]:=by
  refine pc_of (fn:=Tryz.f94) [.tmp 2] (by kernel_rfl) rfl (by kernel_rfl) (Nat.le_of_ble_eq_true rfl) (by kernel_rfl) rfl ?_
  refine awp_seq ?_
  refine wRg ?_
  refine awp_seq ?_
  refine awp_seq ?_
  refine awpF_region ?_; intro K hK; simp only [push_cast,seval]
  refine ⟨?_,fun h0 => ?_⟩
  · refine hK _ ?_; clear hK K
    refine wCd ?_ ?_
    · intro h1; replace h1:=wHb h1
      cases h1
    intro h1; replace h1:=wHb h1
    refine awp_skip ?_
    refine awp_seq ?_
    refine awpF_region ?_; intro K hK; simp only [push_cast,seval]
    refine ⟨fun h=>h,by omega,by omega,fun r h=>encR_row h,?_⟩
    refine hK _ ?_; clear hK K
    refine wRet ?_
    exact ⟨rfl,rfl⟩
  · refine hK _ ?_; clear hK K
    obtain rfl:l=[]:=List.eq_nil_of_length_eq_zero h0
    refine wCd ?_ ?_
    · intro h1; replace h1:=wHb h1
      refine awp_seq ?_
      refine wRg ?_
      refine awp_virt 2 1 rfl ?_
      refine wRet ?_
      exact ⟨rfl,rfl⟩
    intro h1; replace h1:=wHb h1
    cases h1
end Go.Aw
