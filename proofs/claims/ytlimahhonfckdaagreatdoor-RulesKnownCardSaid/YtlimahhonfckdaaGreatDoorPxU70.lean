/-
  Watches on the program's side: rows that are equal,own rows,open positions. Conditions: lengths that fit.
-/
import Derived.Test.YtlimahhonfckdaaGreatDoorRuE
import Derived.Test.YtlimahhonfckdaaGreatDoorRuL
import Derived.Test.YtlimahhonfckdaaGreatDoorRuM
namespace Go.Aw
set_option linter.unusedSimpArgs false
set_option linter.unusedVariables false
open Go.RowKit Go.Proofs
set_option maxRecDepth 100000

theorem eq_take {a b:List Int} (h:a.length=b.length) (he:∀ j,j<a.length→a[j]? = b[j]?) : a=b:=by
  apply List.ext_getElem?
  intro i
  rcases Nat.lt_or_ge i a.length with h1 | h1
  · exact he i h1
  · rw [List.getElem?_eq_none h1,List.getElem?_eq_none (by omega)]
theorem p95 (a b:List Int) (ha:a.length≤1000000) (hb:b.length≤1000000) : PD Tryz.prog 109 [.sl (a.map encI),.sl (b.map encI)] (.d (.bool (decide (a=b)))):=by
  refine pd_of (fn:=Tryz.f109) [.tmp 4] (by kernel_rfl) rfl (by kernel_rfl) (Nat.le_of_ble_eq_true rfl) (by kernel_rfl) rfl rfl ?_
  refine awp_seq ?_
  refine wRg ?_
  refine awp_seq ?_
  refine awp_seq ?_
  refine wRg ?_
  refine wCd ?_ ?_
  · intro h
    have h':a.length≠b.length:=by
      intro e
      rw [e] at h
      simp at h
    refine awp_seq ?_
    refine wRg ?_
    refine wRet ?_
    rw [decide_eq_false fun e=>h' (by rw [e])]
  intro h
  have hl:a.length=b.length:=by
    have:((a.length:Int) != b.length)=false:=h
    simp at this
    omega
  refine awp_skip ?_
  refine awp_seq ?_
  refine awp_seq ?_
  refine wRg ?_
  refine awp_block ?_
  refine awp_loopP (α:=Nat) (st:=fun i=>⟨[(0,.d (.sl (a.map encI))),(1,.d (.sl (b.map encI))),(12,.d (.int .i64 a.length)),(13,.d (.int .i64 i))],[]⟩)
    (inv:=fun i=>i≤a.length∧∀ j,j<i→a[j]? = b[j]?) (μ:=fun i=>a.length - i) (x0:=0) (r0:=[]) ⟨Nat.zero_le _,fun j hj=>absurd hj (Nat.not_lt_zero _)⟩ ?_ ?_
  · exact wRen
  rintro i ⟨hi,he⟩
  refine awp_seq ?_
  refine wRg ?_
  refine awp_seq ?_
  refine wCd ?_ ?_
  · intro h1; replace h1:=wHb h1
    have hlt:i<a.length:=by omega
    obtain ⟨x,hx⟩ : ∃ x,a[i]? = some x:=⟨_,List.getElem?_eq_getElem hlt⟩
    obtain ⟨y,hy⟩ : ∃ y,b[i]? = some y:=⟨_,List.getElem?_eq_getElem (by omega)⟩
    refine awp_skip ?_
    refine awp_seq ?_
    refine awp_block ?_
    refine awp_seq ?_
    refine wRg ?_
    refine awp_seq ?_
    refine awpF_draw [0,1,2,3,4,5,6,7,8] (by kernel_rfl) (by kernel_rfl) rfl ?_; intro K hK; simp only [push_cast,seval,hx,hy,encI,Int.toNat_natCast]
    refine wOb ?_
    refine hK _ ?_; clear hK K
    refine wCd ?_ ?_
    · intro h3
      refine awp_seq ?_
      refine wRg ?_
      refine wRet ?_
      rw [decide_eq_false fun e=>by
        subst e
        rw [hx] at hy
        cases hy
        simp at h3]
    · intro h3
      have h4:x=y:=by simpa using h3
      refine awp_skip ?_
      refine inblock_norm ?_
      refine wRg ?_
      refine round_endG (i+1) [] ⟨by omega,⟨by omega,fun j hj => ?_⟩,?_⟩
      · rcases Nat.lt_or_ge j i with h | h
        · exact he j h
        · obtain rfl:j=i:=by omega
          rw [hx,hy,h4]
      · push_cast
        exact wRen
  · intro h1; replace h1:=wHb h1
    obtain rfl:i=a.length:=by omega
    refine wEx ?_
    refine awp_seq ?_
    refine wRg ?_
    refine wRet ?_
    rw [decide_eq_true (eq_take hl he)]
theorem p71c (t:List (List Int)) (ht:t.length≤1000000) (hr:∀ r,r∈t→r.length≤1000000) : PC Tryz.prog 81 [.sl (t.map encR)] fun x H=>x=.ref 0 0 t.length∧H=[.data 1 (t.map encR)]:=by
  refine pc_of (fn:=Tryz.f81) [.tmp 2] (by kernel_rfl) rfl (by kernel_rfl) (Nat.le_of_ble_eq_true rfl) (by kernel_rfl) rfl ?_
  refine awp_seq ?_
  refine wRg ?_
  refine awp_seq ?_
  refine wRg ?_
  refine awp_seq ?_
  refine awp_seq ?_
  refine wRg ?_
  refine awp_virt 3 1 (by simp only [push_cast,seval]) ?_
  refine awp_block ?_
  refine awp_loopP (α:=Nat) (st:=fun i=>⟨[(3,.ref 0 0 i),(6,.d (.sl (t.map encR))),(7,.d (.int .i64 t.length)),(8,.d (.int .i64 i))],[.data 1 ((t.take i).map encR)]⟩)
    (inv:=fun i=>i≤t.length) (μ:=fun i=>t.length - i) (x0:=0) (r0:=[0]) (Nat.zero_le _) ?_ ?_
  · rw [List.take_zero,List.map_nil]
    exact wRen
  intro i hi
  refine awp_seq ?_
  refine wRg ?_
  refine awp_seq ?_
  refine wCd ?_ ?_
  · intro h1; replace h1:=wHb h1
    have hlt:i<t.length:=by omega
    obtain ⟨r,er⟩ : ∃ x,t[i]? = some x:=⟨_,List.getElem?_eq_getElem hlt⟩
    have h72:=p72 r (hr r (List.mem_of_getElem? er))
    have tt:((t.take i).map encR).take i=(t.take i).map encR:=List.take_of_length_le (by simp; omega)
    have st:(t.take (i+1)).map encR=(t.take i).map encR++[[.sl (r.map encI)]]:=by
      rw [List.take_add_one,er,List.map_append]; rfl
    refine awp_skip ?_
    refine awp_seq ?_
    refine awp_block ?_
    refine awp_seq ?_
    refine awpF_region ?_; intro K hK; simp only [push_cast,seval,er,encR,Int.toNat_natCast]; refine wKk hK ?_; clear hK K
    refine awpF_region ?_; intro K hK; simp only [push_cast,seval]
    refine CallK.pd (h72) ?_; refine wXo ?_
    simp only [tt]
    refine wOb ?_
    refine hK _ ?_; clear hK K
    refine inblock_norm ?_
    refine wRg ?_
    refine round_endG (i+1) [0] ⟨by omega,by omega,?_⟩
    rw [st]
    push_cast
    exact wRen
  · intro h1; replace h1:=wHb h1
    obtain rfl:i=t.length:=by omega
    rw [List.take_length]
    refine wEx ?_
    refine awp_seq ?_
    refine wRg ?_
    refine wRet ?_
    exact ⟨rfl,rfl⟩
end Go.Aw
