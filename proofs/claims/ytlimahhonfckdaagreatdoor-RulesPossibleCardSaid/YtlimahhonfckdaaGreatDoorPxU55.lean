/-
  Follows on both sides,and RulesPlants. Conditions: lengths that fit.
-/
import Derived.Test.YtlimahhonfckdaaGreatDoorRuL
import Derived.Test.YtlimahhonfckdaaGreatDoorRuB
import Derived.Test.YtlimahhonfckdaaGreatDoorPxU41
namespace Go.Aw
set_option linter.unusedSimpArgs false
set_option linter.unusedVariables false
open Go.RowKit Go.Proofs
set_option maxRecDepth 100000

def folE (p:List Ch) (row:List Int) : Int:=if plE p≠0 then plE p else trE [row] p.length
def folR (p:List Ch) (row:List Int) : List (List Int):=if folE p row=0 then folV p row else []
theorem tr_one {row:List Int} {w:Int} (h:trE [row] w=0) : (row.length:Int)=w∧∀ x,x∈row→inV x=true:=by
  unfold trE at h
  split at h
  · cases h
  split at h
  · cases h
  simp only [rowsE] at h
  split at h
  · rename_i h1
    unfold rowE at h1
    split at h1
    · cases h1
    · rename_i h4
      split at h1
      · rename_i h3
        exact ⟨Decidable.not_not.1 h4,fun x hx=>List.all_eq_true.1 h3 x hx⟩
      · cases h1
  · rename_i h1
    exact absurd h h1
theorem p31 (p:List Ch) (row:List Int) (hpl:p.length≤1000000) : PD Tryz.prog 59 [.sl (p.map encCh),.sl (row.map encI)] (.tup [.d (.sl ((folR p row).map encR)),.d (.int .i64 (folE p row))]):=by
  have h33:=p33 p hpl
  have h21:=p21 [row] p.length
  simp only [List.map_cons,List.map_nil,encR] at h21
  by_cases h1:plE p=0
  · rw [h1] at h33
    have e1:folE p row=trE [row] p.length:=by rw [folE,if_neg (by simpa using h1)]
    by_cases h2:trE [row] p.length=0
    · have e2:folE p row=0:=by rw [e1,h2]
      have e3:folR p row=folV p row:=by rw [folR,if_pos e2]
      obtain ⟨hl,hv⟩:=tr_one h2
      have h56:=p56 p row h1 (by omega) hv
      rw [e2,e3]
      rw [h2] at h21
      generalize folV p row=V at *
      refine pdv_of (fn:=Tryz.f59) [.tmp 4,.tmp 5] (by kernel_rfl) rfl (by kernel_rfl) (Nat.le_of_ble_eq_true rfl) (by kernel_rfl) rfl ?_
      (repeat' (first | refine awp_seq ?_ | refine awp_skip ?_ | refine awp_block ?_ | ((first | (refine awpF_region ?_; intro K hK) | refine CallK.pd (h33) ?_ | refine CallK.pg (fun _=>h33) ?_ | refine CallK.pd (h21) ?_ | refine CallK.pg (fun _=>h21) ?_ | refine CallK.pd (h56) ?_ | refine CallK.pg (fun _=>h56) ?_); simp only [push_cast,seval,bne_self_eq_false]; refine wObW ?_) | (refine hK _ ?_; clear hK K) | (refine wCd ?_ ?_) | (with_reducible intro hb; exfalso; revert hb; simp [bne_self_eq_false]; done) | (with_reducible intro hb; exfalso; replace hb:=wHb hb; omega; done) | (with_reducible intro hb; replace hb:=wHb hb) | (refine wEx ?_) | (refine wRp ?_; refine fin_of (by simp only [push_cast,seval,bne_self_eq_false]; first | done | rfl) ob1 ?_) | (refine inblock_norm ?_)))
      exact DeepV.tups (DeepV.cons (DeepV.dd _) (DeepV.cons (DeepV.dd _) DeepV.nils))
    · have e3:folR p row=[]:=by rw [folR,if_neg (by rw [e1]; exact h2)]
      rw [e1,e3]
      have hb1:(trE [row] p.length != 0)=true:=by simpa using h2
      generalize trE [row] p.length=e at *
      refine pdv_of (fn:=Tryz.f59) [.tmp 4,.tmp 5] (by kernel_rfl) rfl (by kernel_rfl) (Nat.le_of_ble_eq_true rfl) (by kernel_rfl) rfl ?_
      (repeat' (first | refine awp_seq ?_ | refine awp_skip ?_ | refine awp_block ?_ | ((first | (refine awpF_region ?_; intro K hK) | refine CallK.pd (h33) ?_ | refine CallK.pg (fun _=>h33) ?_ | refine CallK.pd (h21) ?_ | refine CallK.pg (fun _=>h21) ?_); simp only [push_cast,seval,bne_self_eq_false,hb1]; refine wObW ?_) | (refine hK _ ?_; clear hK K) | (refine wCd ?_ ?_) | (with_reducible intro hb; exfalso; revert hb; simp [bne_self_eq_false,hb1]; done) | (with_reducible intro hb; exfalso; replace hb:=wHb hb; omega; done) | (with_reducible intro hb; replace hb:=wHb hb) | (refine wEx ?_) | (refine wRp ?_; refine fin_of (by simp only [push_cast,seval,bne_self_eq_false,hb1]; first | done | rfl) ob1 ?_) | (refine inblock_norm ?_)))
      exact DeepV.tups (DeepV.cons .nil (DeepV.cons (DeepV.dd _) DeepV.nils))
  · have e1:folE p row=plE p:=by rw [folE,if_pos h1]
    have e3:folR p row=[]:=by rw [folR,if_neg (by rw [e1]; exact h1)]
    rw [e1,e3]
    have hb1:(plE p != 0)=true:=by simpa using h1
    generalize plE p=e at *
    refine pdv_of (fn:=Tryz.f59) [.tmp 4,.tmp 5] (by kernel_rfl) rfl (by kernel_rfl) (Nat.le_of_ble_eq_true rfl) (by kernel_rfl) rfl ?_
    (repeat' (first | refine awp_seq ?_ | refine awp_skip ?_ | refine awp_block ?_ | ((first | (refine awpF_region ?_; intro K hK) | refine CallK.pd (h33) ?_ | refine CallK.pg (fun _=>h33) ?_ | refine CallK.pd (h21) ?_ | refine CallK.pg (fun _=>h21) ?_); simp only [push_cast,seval,hb1]; refine wObW ?_) | (refine hK _ ?_; clear hK K) | (refine wCd ?_ ?_) | (with_reducible intro hb; exfalso; revert hb; simp [hb1]; done) | (with_reducible intro hb; exfalso; replace hb:=wHb hb; omega; done) | (with_reducible intro hb; replace hb:=wHb hb) | (refine wEx ?_) | (refine wRp ?_; refine fin_of (by simp only [push_cast,seval,hb1]; first | done | rfl) ob1 ?_) | (refine inblock_norm ?_)))
    exact DeepV.tups (DeepV.cons .nil (DeepV.cons (DeepV.dd _) DeepV.nils))
end Go.Aw
