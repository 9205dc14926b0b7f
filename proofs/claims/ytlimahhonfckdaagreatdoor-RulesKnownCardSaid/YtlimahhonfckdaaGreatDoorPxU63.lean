/-
  Rows of numbers are compared (cmp.Compare,slices.Compare). Conditions: lengths that fit.
-/
import Derived.Test.YtlimahhonfckdaaGreatDoorPxU62
namespace Go.Aw
set_option linter.unusedSimpArgs false
set_option linter.unusedVariables false
open Go.RowKit Go.Proofs
set_option maxRecDepth 100000

theorem p118 (a:Int) : PD Tryz.prog 116 [.int .i64 a] (.d (.bool false)):=by
  refine pd_of (fn:=Tryz.f116) [.tmp 2] (by kernel_rfl) rfl (by kernel_rfl) (Nat.le_of_ble_eq_true rfl) (by kernel_rfl) rfl rfl ?_
  refine awp_seq ?_
  refine wRg ?_
  refine awp_seq ?_
  refine awpF_region ?_; intro K hK; simp only [push_cast,seval,bne_self_eq_false]; refine wKk hK ?_; clear hK K
  refine wRet ?_
  rfl
def cmpI (a b:Int) : Int:=if a<b then -1 else if b<a then 1 else 0
theorem p97 (a b:Int) : PD Tryz.prog 85 [.int .i64 a,.int .i64 b] (.d (.int .i64 (cmpI a b))):=by
  have h1:=p118 a
  have h2:=p118 b
  by_cases ha:a<b
  · have d1:decide (a<b)=true:=decide_eq_true ha
    rw [cmpI,if_pos ha]
    refine pd_of (fn:=Tryz.f85) [.tmp 4] (by kernel_rfl) rfl (by kernel_rfl) (Nat.le_of_ble_eq_true rfl) (by kernel_rfl) rfl rfl ?_
    (repeat' (first | refine awp_seq ?_ | refine awp_skip ?_ | refine awp_block ?_ | ((first | (refine awpF_region ?_; intro K hK) | refine CallK.pd (h1) ?_ | refine CallK.pg (fun _=>h1) ?_ | refine CallK.pd (h2) ?_ | refine CallK.pg (fun _=>h2) ?_); simp only [push_cast,seval,d1]; refine wObW ?_) | (refine hK _ ?_; clear hK K) | (refine wCd ?_ ?_) | (with_reducible intro hb; exfalso; revert hb; simp [d1]; done) | (with_reducible intro hb; exfalso; replace hb:=wHb hb; omega; done) | (with_reducible intro hb; replace hb:=wHb hb) | (refine wEx ?_) | (refine wRp ?_; refine fin_of (by simp only [push_cast,seval,d1]; first | done | rfl) ob1 ?_) | (refine inblock_norm ?_)))
    rfl
  have d1:decide (a<b)=false:=decide_eq_false ha
  rw [cmpI,if_neg ha]
  by_cases hb:b<a
  · have d2:decide (a > b)=true:=decide_eq_true hb
    rw [if_pos hb]
    refine pd_of (fn:=Tryz.f85) [.tmp 4] (by kernel_rfl) rfl (by kernel_rfl) (Nat.le_of_ble_eq_true rfl) (by kernel_rfl) rfl rfl ?_
    (repeat' (first | refine awp_seq ?_ | refine awp_skip ?_ | refine awp_block ?_ | ((first | (refine awpF_region ?_; intro K hK) | refine CallK.pd (h1) ?_ | refine CallK.pg (fun _=>h1) ?_ | refine CallK.pd (h2) ?_ | refine CallK.pg (fun _=>h2) ?_); simp only [push_cast,seval,d1,d2]; refine wObW ?_) | (refine hK _ ?_; clear hK K) | (refine wCd ?_ ?_) | (with_reducible intro hb; exfalso; revert hb; simp [d1,d2]; done) | (with_reducible intro hb; exfalso; replace hb:=wHb hb; omega; done) | (with_reducible intro hb; replace hb:=wHb hb) | (refine wEx ?_) | (refine wRp ?_; refine fin_of (by simp only [push_cast,seval,d1,d2]; first | done | rfl) ob1 ?_) | (refine inblock_norm ?_)))
    rfl
  have d2:decide (a > b)=false:=decide_eq_false hb
  rw [if_neg hb]
  refine pd_of (fn:=Tryz.f85) [.tmp 4] (by kernel_rfl) rfl (by kernel_rfl) (Nat.le_of_ble_eq_true rfl) (by kernel_rfl) rfl rfl ?_
  (repeat' (first | refine awp_seq ?_ | refine awp_skip ?_ | refine awp_block ?_ | ((first | (refine awpF_region ?_; intro K hK) | refine CallK.pd (h1) ?_ | refine CallK.pg (fun _=>h1) ?_ | refine CallK.pd (h2) ?_ | refine CallK.pg (fun _=>h2) ?_); simp only [push_cast,seval,d1,d2]; refine wObW ?_) | (refine hK _ ?_; clear hK K) | (refine wCd ?_ ?_) | (with_reducible intro hb; exfalso; revert hb; simp [d1,d2]; done) | (with_reducible intro hb; exfalso; replace hb:=wHb hb; omega; done) | (with_reducible intro hb; replace hb:=wHb hb) | (refine wEx ?_) | (refine wRp ?_; refine fin_of (by simp only [push_cast,seval,d1,d2]; first | done | rfl) ob1 ?_) | (refine inblock_norm ?_)))
  rfl
theorem cmpL_cons (x y:Int) (l m:List Int) : cmpL (x::l) (y::m)=if cmpI x y=0 then cmpL l m else cmpI x y:=by
  simp only [cmpL,cmpI]
  split
  · simp
  · split <;> simp
theorem p74 (a b:List Int) (h:a.length=b.length) (hn:a.length≤1000) : PD Tryz.prog 58 [.sl (a.map encI),.sl (b.map encI)] (.d (.int .i64 (cmpL a b))):=by
  refine pd_of (fn:=Tryz.f58) [.tmp 4] (by kernel_rfl) rfl (by kernel_rfl) (Nat.le_of_ble_eq_true rfl) (by kernel_rfl) rfl rfl ?_
  refine awp_seq ?_
  refine wRg ?_
  refine awp_seq ?_
  refine awp_seq ?_
  refine wRg ?_
  refine awp_block ?_
  refine awp_loopP (α:=Nat) (st:=fun i=>⟨[(0,.d (.sl (a.map encI))),(1,.d (.sl (b.map encI))),(9,.d (.sl (a.map encI))),(10,.d (.int .i64 a.length)),(11,.d (.int .i64 i))],[]⟩)
    (inv:=fun i=>i≤a.length∧∀ j,j<i→a[j]? = b[j]?) (μ:=fun i=>a.length - i) (x0:=0) (r0:=[]) ⟨Nat.zero_le _,fun j hj=>absurd hj (Nat.not_lt_zero _)⟩ ?_ ?_
  · exact wRen
  rintro i ⟨hi,he⟩
  have hdr:=cmpL_drop he
  refine awp_seq ?_
  refine wRg ?_
  refine awp_seq ?_
  refine wCd ?_ ?_
  · intro h1; replace h1:=wHb h1
    have hlt:i<a.length:=by omega
    obtain ⟨x,hx⟩ : ∃ x,a[i]? = some x:=⟨_,List.getElem?_eq_getElem hlt⟩
    obtain ⟨y,hy⟩ : ∃ y,b[i]? = some y:=⟨_,List.getElem?_eq_getElem (by omega)⟩
    have hc:=p97 x y
    rw [List.drop_eq_getElem_cons hlt,List.drop_eq_getElem_cons (show i<b.length by omega),show a[i]=x from (List.getElem?_eq_some_iff.1 hx).2,show b[i]=y from (List.getElem?_eq_some_iff.1 hy).2,cmpL_cons] at hdr
    have hd:decide ((i:Int) ≥ (b.length:Int))=false:=decide_eq_false (by omega)
    have hz:cmpI x y=0→x=y:=fun h=>by
      unfold cmpI at h
      split at h
      · cases h
      · split at h
        · cases h
        · omega
    generalize cmpI x y=c at *
    refine awp_skip ?_
    refine awp_seq ?_
    refine awp_block ?_
    refine awp_seq ?_
    refine awpF_region ?_; intro K hK; simp only [push_cast,seval,hx,encI,Int.toNat_natCast]; refine wKk hK ?_; clear hK K
    refine awp_seq ?_
    refine awp_seq ?_
    refine awpF_region ?_; intro K hK; simp only [push_cast,seval,hd]; refine wKk hK ?_; clear hK K
    refine wCd ?_ ?_
    · intro h; cases h
    intro _
    refine awp_skip ?_
    refine awp_seq ?_
    refine awpF_region ?_; intro K hK; simp only [push_cast,seval,hy,encI,Int.toNat_natCast]; refine wKk hK ?_; clear hK K
    refine awp_seq ?_
    refine awpF_region ?_; intro K hK; simp only [push_cast,seval]
    refine CallK.pd (hc) ?_; refine wXo ?_
    refine hK _ ?_; clear hK K
    refine awp_seq ?_
    refine wRg ?_
    refine wCd ?_ ?_
    · intro h4
      have h4':c≠0:=by simpa using h4
      refine awp_seq ?_
      refine wRg ?_
      refine wRet ?_
      rw [hdr,if_neg h4']
    · intro h4
      have h4':c=0:=by simpa using h4
      refine awp_skip ?_
      refine inblock_norm ?_
      refine wRg ?_
      refine round_endG (i+1) [] ⟨by omega,⟨by omega,fun j hj => ?_⟩,?_⟩
      · rcases Nat.lt_or_ge j i with h | h
        · exact he j h
        · obtain rfl:j=i:=by omega
          rw [hx,hy,hz h4']
      · push_cast
        exact wRen
  · intro h1; replace h1:=wHb h1
    obtain rfl:i=a.length:=by omega
    rw [List.drop_eq_nil_of_le (Nat.le_refl _)] at hdr
    have hd:decide ((a.length:Int)<(b.length:Int))=false:=decide_eq_false (by omega)
    refine wEx ?_
    refine awp_seq ?_
    refine awp_seq ?_
    refine awpF_region ?_; intro K hK; simp only [push_cast,seval,hd]; refine wKk hK ?_; clear hK K
    refine wCd ?_ ?_
    · intro h; cases h
    intro _
    refine awp_skip ?_
    refine awp_seq ?_
    refine wRg ?_
    refine wRet ?_
    rw [hdr]
    rfl
end Go.Aw
