/-
  Follows on both sides,and RulesPlants. Conditions: lengths that fit.
-/
import Derived.Test.YtlimahhonfckdaaGreatDoorRuL
import Derived.Test.YtlimahhonfckdaaGreatDoorRuB
import Derived.Test.YtlimahhonfckdaaGreatDoorPxU41
namespace Go.Aw
set_option linter.unusedSimpArgs false
set_option linter.unusedVariables false
open Go.RowKit Go.Proofs
set_option maxRecDepth 100000

theorem col_all (p:List Ch) (row:List Int) (hp:plE p=0) (hl:row.length=p.length) (hv:∀ x,x∈row→inV x=true) : ∀ m k:Nat,k+m=p.length→ColC p row k
  | 0,k,h=>by
    obtain rfl:k=p.length:=by omega
    exact p84e p row (pl_ok hp).2.1
  | m+1,k,h=>p84s p row k hp hl hv (by omega) (col_all p row hp hl hv m (k+1) (by omega))
theorem p54 (p:List Ch) (row:List Int) (hp:plE p=0) (hl:row.length=p.length) (hv:∀ x,x∈row→inV x=true) :
    AC Tryz.prog 74 [.d (.sl (p.map encCh)),.d (.sl (row.map encI)),.fn (.func 75) [.ptr 1 0 0]] [.gone,.cells [.ref 2 0 0],.data 1 []] [0,1] fun x H'=>x=.d (.bool true)∧H'=[.gone,.cells [.ref 2 0 (folV p row).length],.data 1 ((folV p row).map encR)]:=by
  refine AC.cut (R:=fun x H'=>x=.d (.bool true)∧∃ X,H'=[.gone,.cells [.ref 2 0 (folV p row).length],.data 1 ((folV p row).map encR)]++X) ?_ ?_
  rotate_left
  · rintro x _ ⟨rfl,X,rfl⟩
    exact ⟨_,X,rfl,rfl,rfl,by simp,rfl,rfl⟩
  have h9:=folV_len hp (by omega:p.length≤row.length)
  have hc:=col_all p row hp hl hv p.length 0 (by omega) [] [] [] rfl rfl (by rw [List.drop_zero,List.drop_zero,List.length_nil]; omega)
  rw [List.drop_zero,List.drop_zero] at hc
  have e:([] : List (List Int))++(folV p row).map (([] : List Int)++·)=folV p row:=by simp
  rw [e] at hc
  simp only [foH,List.map_nil,List.length_nil,Int.natCast_zero] at hc
  refine ac_ofF (fn:=Tryz.f74) [.tmp 6] (by kernel_rfl) rfl (by kernel_rfl) (Nat.le_of_ble_eq_true rfl) (by kernel_rfl) rfl ?_
  refine awp_seq ?_
  refine wRg ?_
  refine awp_seq ?_
  refine wRg ?_
  refine awp_seq ?_
  refine wRg ?_
  refine awp_seq ?_
  refine wRg ?_
  refine awp_virtC 6 1 rfl ?_
  simp only [push_cast,seval]
  refine awp_seq ?_
  refine awp_regionF ?_; intro K hK
  refine from_X 1 rfl rfl ?_; refine wXo ?_
  refine call_V [2,8] (by simp) (by simp only [push_cast,seval]; rfl) (by first | trivial | simp) (hc) ?_
  rintro _ _ ⟨rfl,zs,_,rfl⟩
  simp only [push_cast,seval]
  refine from_end ?_; simp only [push_cast,seval]; refine wKk hK ?_; clear hK K
  refine wRet ?_
  exact ⟨rfl,_,rfl⟩
def folE (p:List Ch) (row:List Int) : Int:=if plE p≠0 then plE p else trE [row] p.length
def folR (p:List Ch) (row:List Int) : List (List Int):=if folE p row=0 then folV p row else []
theorem tr_one {row:List Int} {w:Int} (h:trE [row] w=0) : (row.length:Int)=w∧∀ x,x∈row→inV x=true:=by
  unfold trE at h
  split at h
  · cases h
  split at h
  · cases h
  simp only [rowsE] at h
  split at h
  · rename_i h1
    unfold rowE at h1
    split at h1
    · cases h1
    · rename_i h4
      split at h1
      · rename_i h3
        exact ⟨Decidable.not_not.1 h4,fun x hx=>List.all_eq_true.1 h3 x hx⟩
      · cases h1
  · rename_i h1
    exact absurd h h1
theorem p30 (p:List Ch) (row:List Int) (hpl:p.length≤1000000) : PD Tryz.prog 34 [.sl (p.map encCh),.sl (row.map encI)] (.tup [.d (.sl ((folR p row).map encR)),.d (.int .i64 (folE p row))]):=by
  have h32:=p32 p hpl
  have h20:=p20 [row] p.length
  simp only [List.map_cons,List.map_nil,encR] at h20
  by_cases h1:plE p=0
  · rw [h1] at h32
    have e1:folE p row=trE [row] p.length:=by rw [folE,if_neg (by simpa using h1)]
    by_cases h2:trE [row] p.length=0
    · have e2:folE p row=0:=by rw [e1,h2]
      have e3:folR p row=folV p row:=by rw [folR,if_pos e2]
      obtain ⟨hl,hv⟩:=tr_one h2
      have h54:=p54 p row h1 (by omega) hv
      rw [e2,e3]
      rw [h2] at h20
      generalize folV p row=V at *
      refine pdv_of (fn:=Tryz.f34) [.tmp 4,.tmp 5] (by kernel_rfl) rfl (by kernel_rfl) (Nat.le_of_ble_eq_true rfl) (by kernel_rfl) rfl ?_
      (repeat' (first | refine awp_seq ?_ | refine awp_skip ?_ | refine awp_block ?_ | ((first | ((fail_if_success refine awpF_region (id:=7) ?_); refine awpF_region ?_; intro K hK) | refine CallK.pd (h32) ?_ | refine CallK.pg (fun _=>h32) ?_ | refine CallK.pd (h20) ?_ | refine CallK.pg (fun _=>h20) ?_); simp only [push_cast,seval,bne_self_eq_false]; refine wObW ?_) | (refine hK _ ?_; clear hK K) | (refine wCd ?_ ?_) | (with_reducible intro hb; exfalso; revert hb; simp [bne_self_eq_false]; done) | (with_reducible intro hb; exfalso; replace hb:=wHb hb; omega; done) | (with_reducible intro hb; replace hb:=wHb hb) | (refine wEx ?_) | (refine wRp ?_; refine fin_of (by simp only [push_cast,seval,bne_self_eq_false]; first | done | rfl) ob1 ?_) | (refine inblock_norm ?_)))
      refine wRg ?_
      refine awp_virtC 1 1 rfl ?_
      simp only [push_cast,seval]
      refine awp_seq ?_
      refine awp_regionF ?_; intro K hK
      refine from_X 3 rfl rfl ?_; refine wXo ?_
      refine call_V [2] (by simp) (by simp only [push_cast,seval]; rfl) (by first | trivial | simp) (h54) ?_
      rintro _ _ ⟨rfl,rfl⟩
      simp only [push_cast,seval]
      refine from_end ?_; simp only [push_cast,seval]; refine wKk hK ?_; clear hK K
      refine awp_seq ?_
      refine wRg ?_
      refine wRet ?_
      exact DeepV.tups (DeepV.cons (DeepV.row rfl (by simp)) (DeepV.cons (DeepV.dd _) DeepV.nils))
    · have e3:folR p row=[]:=by rw [folR,if_neg (by rw [e1]; exact h2)]
      rw [e1,e3]
      have hb1:(trE [row] p.length != 0)=true:=by simpa using h2
      generalize trE [row] p.length=e at *
      refine pdv_of (fn:=Tryz.f34) [.tmp 4,.tmp 5] (by kernel_rfl) rfl (by kernel_rfl) (Nat.le_of_ble_eq_true rfl) (by kernel_rfl) rfl ?_
      (repeat' (first | refine awp_seq ?_ | refine awp_skip ?_ | refine awp_block ?_ | ((first | (refine awpF_region ?_; intro K hK) | refine CallK.pd (h32) ?_ | refine CallK.pg (fun _=>h32) ?_ | refine CallK.pd (h20) ?_ | refine CallK.pg (fun _=>h20) ?_); simp only [push_cast,seval,bne_self_eq_false,hb1]; refine wObW ?_) | (refine hK _ ?_; clear hK K) | (refine wCd ?_ ?_) | (with_reducible intro hb; exfalso; revert hb; simp [bne_self_eq_false,hb1]; done) | (with_reducible intro hb; exfalso; replace hb:=wHb hb; omega; done) | (with_reducible intro hb; replace hb:=wHb hb) | (refine wEx ?_) | (refine wRp ?_; refine fin_of (by simp only [push_cast,seval,bne_self_eq_false,hb1]; first | done | rfl) ob1 ?_) | (refine inblock_norm ?_)))
      exact DeepV.tups (DeepV.cons .nil (DeepV.cons (DeepV.dd _) DeepV.nils))
  · have e1:folE p row=plE p:=by rw [folE,if_pos h1]
    have e3:folR p row=[]:=by rw [folR,if_neg (by rw [e1]; exact h1)]
    rw [e1,e3]
    have hb1:(plE p != 0)=true:=by simpa using h1
    generalize plE p=e at *
    refine pdv_of (fn:=Tryz.f34) [.tmp 4,.tmp 5] (by kernel_rfl) rfl (by kernel_rfl) (Nat.le_of_ble_eq_true rfl) (by kernel_rfl) rfl ?_
    (repeat' (first | refine awp_seq ?_ | refine awp_skip ?_ | refine awp_block ?_ | ((first | (refine awpF_region ?_; intro K hK) | refine CallK.pd (h32) ?_ | refine CallK.pg (fun _=>h32) ?_ | refine CallK.pd (h20) ?_ | refine CallK.pg (fun _=>h20) ?_); simp only [push_cast,seval,hb1]; refine wObW ?_) | (refine hK _ ?_; clear hK K) | (refine wCd ?_ ?_) | (with_reducible intro hb; exfalso; revert hb; simp [hb1]; done) | (with_reducible intro hb; exfalso; replace hb:=wHb hb; omega; done) | (with_reducible intro hb; replace hb:=wHb hb) | (refine wEx ?_) | (refine wRp ?_; refine fin_of (by simp only [push_cast,seval,hb1]; first | done | rfl) ob1 ?_) | (refine inblock_norm ?_)))
    exact DeepV.tups (DeepV.cons .nil (DeepV.cons (DeepV.dd _) DeepV.nils))
end Go.Aw
