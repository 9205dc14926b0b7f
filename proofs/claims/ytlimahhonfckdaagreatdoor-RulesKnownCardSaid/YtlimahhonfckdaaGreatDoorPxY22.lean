/-
  The chapter's examples: small functions. Conditions: lengths that fit.
-/
import Derived.Test.YtlimahhonfckdaaGreatDoorPxY9
import Derived.Test.YtlimahhonfckdaaGreatDoorPxY14
import Derived.Test.YtlimahhonfckdaaGreatDoorRuF
import Derived.Test.YtlimahhonfckdaaGreatDoorPxU55
namespace Go.Aw
set_option linter.unusedSimpArgs false
set_option linter.unusedVariables false
open Go.RowKit Go.Proofs
set_option maxRecDepth 100000

def stepsP:List Ch:=[⟨0,-1,1,0,9⟩]
def twoP:List Ch:=[⟨0,0,1,0,9⟩,⟨1,0,2,0,9⟩]
theorem q40:PD Tryz.prog 40 [] (.d (.sl (stepsP.map encCh))):=by
  refine pdv_of (fn:=Tryz.f40) [.tmp 0] (by kernel_rfl) rfl (by kernel_rfl) (Nat.le_of_ble_eq_true rfl) (by kernel_rfl) rfl ?_
  (repeat' (first | refine awp_seq ?_ | refine awp_skip ?_ | refine awp_block ?_ | ((first | (refine awpF_region ?_; intro K hK)); refine wXo ?_) | (refine hK _ ?_; clear hK K) | (refine wCd ?_ ?_) | (with_reducible intro hb; exfalso; revert hb; simp []; done) | (with_reducible intro hb; exfalso; replace hb:=wHb hb; omega; done) | (with_reducible intro hb; replace hb:=wHb hb) | (refine wEx ?_) | (refine wRet ?_) | (refine inblock_norm ?_)))
  exact DeepV.row rfl rfl
theorem q41:PD Tryz.prog 41 [] (.d (.sl (twoP.map encCh))):=by
  refine pdv_of (fn:=Tryz.f41) [.tmp 0] (by kernel_rfl) rfl (by kernel_rfl) (Nat.le_of_ble_eq_true rfl) (by kernel_rfl) rfl ?_
  (repeat' (first | refine awp_seq ?_ | refine awp_skip ?_ | refine awp_block ?_ | ((first | (refine awpF_region ?_; intro K hK)); refine wXo ?_) | (refine hK _ ?_; clear hK K) | (refine wCd ?_ ?_) | (with_reducible intro hb; exfalso; revert hb; simp []; done) | (with_reducible intro hb; exfalso; replace hb:=wHb hb; omega; done) | (with_reducible intro hb; replace hb:=wHb hb) | (refine wEx ?_) | (refine wRet ?_) | (refine inblock_norm ?_)))
  exact DeepV.row rfl rfl
theorem q37 (l:List UInt8) (t:Fm) (hl:l.length≤100000) (h:parseL l=some t.flat) (hw:t.wf) (hc:chkE t.flat 12 t=0) : PD Tryz.prog 37 [.str (bs l)] (.d (.sl (t.flat.map encNd))):=by
  have h1:=p44 l t hl fun f hf _=>⟨hw,by rw [h] at hf; exact (Option.some.inj hf).symm⟩
  have e:prsV l t=(t.flat,0):=by simp only [prsV,h,if_pos hc]
  rw [e] at h1
  exact h1
theorem q38 (l:List UInt8) (t:Fm) (want:Int) (ns:List Int) (hn:ns.length≤1000) (hl:l.length≤100000) (h:parseL l=some t.flat) (hw:t.wf) (hc:chkE t.flat 12 t=0)
    (hv:(evE t.flat 1 t (ns.map fun x=>[x]) 0==0&&evV t.flat 1 t (ns.map fun x=>[x]) 0==want)=true) : PD Tryz.prog 38 [.str (bs l),.int .i64 want,.sl (ns.map encI)] (.d (.bool true)):=by
  have e:prsV l t=(t.flat,0):=by simp only [prsV,h,if_pos hc]
  have hf:=(sh_facts (f:=t.flat) (w:=12) (chk_sh hc)).1
  have h1:=p43 l t want ns hn hl (fun f hf _=>⟨hw,by rw [h] at hf; exact (Option.some.inj hf).symm⟩) (by rw [e]; exact fun _=>⟨hw,rfl⟩) (by rw [e]; show t.flat.length≤_; omega)
  rw [e] at h1
  dsimp only at h1
  rw [hv] at h1
  exact h1
theorem q44 (l:List UInt8) (hl:l.length≤100000) (h:parseL l=none) : PD Tryz.prog 44 [.str (bs l),.int .i64 3] (.d (.bool true)):=by
  have h1:=p37 l (.z ⟨1,0,0,0,0,0⟩) hl fun f hf _=>by rw [h] at hf; cases hf
  have e:prsV l (.z ⟨1,0,0,0,0,0⟩)=([],3):=by simp only [prsV,h]
  rw [e] at h1
  simp only [List.map_nil] at h1
  refine pd_of (fn:=Tryz.f44) [.tmp 4] (by kernel_rfl) rfl (by kernel_rfl) (Nat.le_of_ble_eq_true rfl) (by kernel_rfl) rfl rfl ?_
  (repeat' (first | refine awp_seq ?_ | refine awp_skip ?_ | refine awp_block ?_ | ((first | (refine awpF_region ?_; intro K hK) | refine CallK.pd (h1) ?_ | refine CallK.pg (fun _=>h1) ?_); simp only [push_cast,seval,beq_self_eq_true]; refine wObW ?_) | (refine hK _ ?_; clear hK K) | (refine wCd ?_ ?_) | (with_reducible intro hb; exfalso; revert hb; simp [beq_self_eq_true]; done) | (with_reducible intro hb; exfalso; replace hb:=wHb hb; omega; done) | (with_reducible intro hb; replace hb:=wHb hb) | (refine wEx ?_) | (refine wRp ?_; refine fin_of (by simp only [push_cast,seval,beq_self_eq_true]; first | done | rfl) ob1 ?_) | (refine inblock_norm ?_)))
  rfl
theorem q43 (f:List Nd) (p:List Ch) (t:Fm) (T:List (List Int)) (n:Int) (who:List Int) (hf:f.length≤1000000) (hpl:p.length≤1000000) (hTl:T.length≤1000000) (ht:shE f p.length=0→t.wf∧f=t.flat)
    (h1:reE f p t T=0) (h2:reL f p t T=true) (h3:reAt f p t T=n) (h4:reWho f p t T=who) (hw:who.length≤1000) :
    PD Tryz.prog 43 [.sl (f.map encNd),.sl (p.map encCh),.sl (T.map encR),.int .i64 n,.sl (who.map encI)] (.d (.bool true)):=by
  have h29:=q29 f p t T hf hpl hTl ht
  rw [h1,h2,h3,h4] at h29
  have h31:=q31 who who (by omega)
  rw [decide_eq_true rfl] at h31
  refine pd_of (fn:=Tryz.f43) [.tmp 10] (by kernel_rfl) rfl (by kernel_rfl) (Nat.le_of_ble_eq_true rfl) (by kernel_rfl) rfl rfl ?_
  (repeat' (first | refine awp_seq ?_ | refine awp_skip ?_ | refine awp_block ?_ | ((first | (refine awpF_region ?_; intro K hK) | refine CallK.pd (h29) ?_ | refine CallK.pg (fun _=>h29) ?_ | refine CallK.pd (h31) ?_ | refine CallK.pg (fun _=>h31) ?_); simp only [push_cast,seval,beq_self_eq_true]; refine wObW ?_) | (refine hK _ ?_; clear hK K) | (refine wCd ?_ ?_) | (with_reducible intro hb; exfalso; revert hb; simp [beq_self_eq_true]; done) | (with_reducible intro hb; exfalso; replace hb:=wHb hb; omega; done) | (with_reducible intro hb; replace hb:=wHb hb) | (refine wEx ?_) | (refine wRp ?_; refine fin_of (by simp only [push_cast,seval,beq_self_eq_true]; first | done | rfl) ob1 ?_) | (refine inblock_norm ?_)))
  rfl
end Go.Aw
