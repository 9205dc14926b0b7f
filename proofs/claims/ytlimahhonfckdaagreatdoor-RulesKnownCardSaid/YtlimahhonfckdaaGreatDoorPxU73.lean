/-
  Begin of the program. Conditions: lengths that fit.
-/
import Derived.Test.YtlimahhonfckdaaGreatDoorPxU72
namespace Go.Aw
set_option linter.unusedSimpArgs false
set_option linter.unusedVariables false
open Go.RowKit Go.Proofs
set_option maxRecDepth 100000

def bgW (f:List Nd) (w:Int) (t:Fm) : Wt:=if chkE f w t=0 then ⟨f,w,0,[],[]⟩ else wt0
theorem p39 (f:List Nd) (w:Int) (t:Fm) (hf:f.length≤1000000) (ht:shE f w=0→t.wf∧f=t.flat) : PD Tryz.prog 13 [.sl (f.map encNd),.int .i64 w] (.tup [.agg (wtV (bgW f w t)),.d (.int .i64 (chkE f w t))]):=by
  have h16:=p16 f w t hf ht
  have h69:=p69 f hf
  unfold bgW
  generalize chkE f w t=e at *
  by_cases he:e=0
  · subst he
    rw [if_pos rfl]
    refine pdv_of (fn:=Tryz.f13) [.cell 4 31,.tmp 5] (by kernel_rfl) rfl (by kernel_rfl) (Nat.le_of_ble_eq_true rfl) (by kernel_rfl) rfl ?_
    (repeat' (first | refine awp_seq ?_ | refine awp_skip ?_ | refine awp_block ?_ | ((first | (refine awpF_region ?_; intro K hK) | refine CallK.pd (h16) ?_ | refine CallK.pg (fun _=>h16) ?_ | refine CallK.pd (h69) ?_ | refine CallK.pg (fun _=>h69) ?_); simp only [push_cast,seval,bne_self_eq_false]; refine wObW ?_) | (refine hK _ ?_; clear hK K) | (refine wCd ?_ ?_) | (with_reducible intro hb; exfalso; revert hb; simp [bne_self_eq_false]; done) | (with_reducible intro hb; exfalso; replace hb:=wHb hb; omega; done) | (with_reducible intro hb; replace hb:=wHb hb) | (refine wEx ?_) | (refine wRp ?_; refine fin_of (by simp only [push_cast,seval,bne_self_eq_false]; first | done | rfl) ob1 ?_) | (refine inblock_norm ?_)))
    exact DeepV.tups (DeepV.cons (DeepV.aggs (DeepV.cons (.dd _) (DeepV.cons (.dd _) (DeepV.cons (.dd _) (DeepV.cons .nil (DeepV.cons .nil DeepV.nils)))))) (DeepV.cons (.dd _) DeepV.nils))
  · rw [if_neg he]
    have hb1:(e != 0)=true:=by simpa using he
    refine pdv_of (fn:=Tryz.f13) [.cell 4 31,.tmp 5] (by kernel_rfl) rfl (by kernel_rfl) (Nat.le_of_ble_eq_true rfl) (by kernel_rfl) rfl ?_
    (repeat' (first | refine awp_seq ?_ | refine awp_skip ?_ | refine awp_block ?_ | ((first | (refine awpF_region ?_; intro K hK) | refine CallK.pd (h16) ?_ | refine CallK.pg (fun _=>h16) ?_ | refine CallK.pd (h69) ?_ | refine CallK.pg (fun _=>h69) ?_); simp only [push_cast,seval,hb1]; refine wObW ?_) | (refine hK _ ?_; clear hK K) | (refine wCd ?_ ?_) | (with_reducible intro hb; exfalso; revert hb; simp [hb1]; done) | (with_reducible intro hb; exfalso; replace hb:=wHb hb; omega; done) | (with_reducible intro hb; replace hb:=wHb hb) | (refine wEx ?_) | (refine wRp ?_; refine fin_of (by simp only [push_cast,seval,hb1]; first | done | rfl) ob1 ?_) | (refine inblock_norm ?_)))
    exact DeepV.tups (DeepV.cons (DeepV.aggs (DeepV.cons .nil (DeepV.cons (.dd _) (DeepV.cons (.dd _) (DeepV.cons .nil (DeepV.cons .nil DeepV.nils)))))) (DeepV.cons (.dd _) DeepV.nils))
end Go.Aw
