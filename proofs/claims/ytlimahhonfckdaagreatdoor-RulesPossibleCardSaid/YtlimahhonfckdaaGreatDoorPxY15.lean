/-
  RulesPossible answers true. Conditions: lengths and numbers that a call can have.
-/
import Derived.Test.YtlimahhonfckdaaGreatDoorPxY13
import Derived.Test.YtlimahhonfckdaaGreatDoorPxY14
import Derived.Test.YtlimahhonfckdaaGreatDoorPxU41
import Derived.Test.YtlimahhonfckdaaGreatDoorPxU45
namespace Go.Aw
set_option linter.unusedSimpArgs false
set_option linter.unusedVariables false
open Go.RowKit Go.Proofs
set_option maxRecDepth 100000

set_option maxHeartbeats 4000000 in
theorem q5 (f:List Nd) (p:List Ch) (t:Fm) (T:List (List Int)) (nums rows:List Int) (n:Int) (hf:f.length≤1000000000000000) (hpl:p.length≤1000000000000000) (hT:T.length≤1000000000000000)
    (ht:shE f p.length=0→t.wf∧f=t.flat) (hn:numsOk nums) (hrw:numsOk rows) (hnn : -9223372036854775808≤n∧n≤9223372036854775807) :
    PD Tryz.prog 5 [.sl (f.map encNd),.sl (p.map encCh),.sl (T.map encR),.sl (nums.map encI),.sl (rows.map encI),.int .i64 n] (.d (.bool true)):=by
  have h12:=p12 T (by omega)
  have h13:=p13
  have hw:(1:Int)≤2∧(2:Int)≤12:=⟨by decide,by decide⟩
  have hm:(0:Int)≤2∧(2:Int)≤20:=⟨by decide,by decide⟩
  generalize hcv:IntKind.i64.wrap (cellsV T)=cv at *
  by_cases c1:10<f.length
  · have d1:decide ((f.length:Int) > 10)=true:=decide_eq_true (by omega)
    refine pd_of (fn:=Tryz.f5) [.tmp 12] (by kernel_rfl) rfl (by kernel_rfl) (Nat.le_of_ble_eq_true rfl) (by kernel_rfl) rfl rfl ?_
    (repeat' (first | refine awp_seq ?_ | refine awp_skip ?_ | refine awp_block ?_ | ((first | (refine awpF_region ?_; intro K hK) | refine CallK.pd (h12) ?_ | refine CallK.pg (fun _=>h12) ?_ | refine CallK.pd (h13) ?_ | refine CallK.pg (fun _=>h13) ?_); simp only [push_cast,seval,d1]; refine wObW ?_) | (refine hK _ ?_; clear hK K) | (refine wCd ?_ ?_) | (with_reducible intro hb; exfalso; revert hb; simp [d1]; done) | (with_reducible intro hb; exfalso; replace hb:=wHb hb; omega; done) | (with_reducible intro hb; replace hb:=wHb hb) | (refine wEx ?_) | (refine wRp ?_; refine fin_of (by simp only [push_cast,seval,d1]; first | done | rfl) ob1 ?_) | (refine inblock_norm ?_)))
    rfl
  have d1:decide ((f.length:Int) > 10)=false:=decide_eq_false (by omega)
  by_cases c2:4<p.length
  · have d2:decide ((p.length:Int) > 4)=true:=decide_eq_true (by omega)
    refine pd_of (fn:=Tryz.f5) [.tmp 12] (by kernel_rfl) rfl (by kernel_rfl) (Nat.le_of_ble_eq_true rfl) (by kernel_rfl) rfl rfl ?_
    (repeat' (first | refine awp_seq ?_ | refine awp_skip ?_ | refine awp_block ?_ | ((first | (refine awpF_region ?_; intro K hK) | refine CallK.pd (h12) ?_ | refine CallK.pg (fun _=>h12) ?_ | refine CallK.pd (h13) ?_ | refine CallK.pg (fun _=>h13) ?_); simp only [push_cast,seval,d1,d2]; refine wObW ?_) | (refine hK _ ?_; clear hK K) | (refine wCd ?_ ?_) | (with_reducible intro hb; exfalso; revert hb; simp [d1,d2]; done) | (with_reducible intro hb; exfalso; replace hb:=wHb hb; omega; done) | (with_reducible intro hb; replace hb:=wHb hb) | (refine wEx ?_) | (refine wRp ?_; refine fin_of (by simp only [push_cast,seval,d1,d2]; first | done | rfl) ob1 ?_) | (refine inblock_norm ?_)))
    rfl
  have d2:decide ((p.length:Int) > 4)=false:=decide_eq_false (by omega)
  by_cases c3:24<cv
  · have d3:decide (cv > 24)=true:=decide_eq_true (by omega)
    refine pd_of (fn:=Tryz.f5) [.tmp 12] (by kernel_rfl) rfl (by kernel_rfl) (Nat.le_of_ble_eq_true rfl) (by kernel_rfl) rfl rfl ?_
    (repeat' (first | refine awp_seq ?_ | refine awp_skip ?_ | refine awp_block ?_ | ((first | (refine awpF_region ?_; intro K hK) | refine CallK.pd (h12) ?_ | refine CallK.pg (fun _=>h12) ?_ | refine CallK.pd (h13) ?_ | refine CallK.pg (fun _=>h13) ?_); simp only [push_cast,seval,d1,d2,d3]; refine wObW ?_) | (refine hK _ ?_; clear hK K) | (refine wCd ?_ ?_) | (with_reducible intro hb; exfalso; revert hb; simp [d1,d2,d3]; done) | (with_reducible intro hb; exfalso; replace hb:=wHb hb; omega; done) | (with_reducible intro hb; replace hb:=wHb hb) | (refine wEx ?_) | (refine wRp ?_; refine fin_of (by simp only [push_cast,seval,d1,d2,d3]; first | done | rfl) ob1 ?_) | (refine inblock_norm ?_)))
    rfl
  have d3:decide (cv > 24)=false:=decide_eq_false (by omega)
  by_cases c4:24<T.length
  · have d4:decide ((T.length:Int) > 24)=true:=decide_eq_true (by omega)
    refine pd_of (fn:=Tryz.f5) [.tmp 12] (by kernel_rfl) rfl (by kernel_rfl) (Nat.le_of_ble_eq_true rfl) (by kernel_rfl) rfl rfl ?_
    (repeat' (first | refine awp_seq ?_ | refine awp_skip ?_ | refine awp_block ?_ | ((first | (refine awpF_region ?_; intro K hK) | refine CallK.pd (h12) ?_ | refine CallK.pg (fun _=>h12) ?_ | refine CallK.pd (h13) ?_ | refine CallK.pg (fun _=>h13) ?_); simp only [push_cast,seval,d1,d2,d3,d4]; refine wObW ?_) | (refine hK _ ?_; clear hK K) | (refine wCd ?_ ?_) | (with_reducible intro hb; exfalso; revert hb; simp [d1,d2,d3,d4]; done) | (with_reducible intro hb; exfalso; replace hb:=wHb hb; omega; done) | (with_reducible intro hb; replace hb:=wHb hb) | (refine wEx ?_) | (refine wRp ?_; refine fin_of (by simp only [push_cast,seval,d1,d2,d3,d4]; first | done | rfl) ob1 ?_) | (refine inblock_norm ?_)))
    rfl
  have d4:decide ((T.length:Int) > 24)=false:=decide_eq_false (by omega)
  have h26:=p26 nums 2 2 hn.1 hn.2 hw hm
  rw [show (partT nums 2 2 3 0).1=ruleT nums 2 2 from rfl] at h26
  have hfl:=rule_len nums hw hm
  have hW:=rule_W nums hw hm
  have h19:=p19 (ruleT nums 2 2).flat (ruleT nums 2 2) (by omega) (fun _=>⟨hW.wf,rfl⟩)
  rw [hz_ok (rule_sh12 nums hw hm)] at h19
  have h24:=q24 n hnn
  have h25:=q25 (plantV n) rows 6 (plant_ok n) rfl hrw ⟨by decide,by decide⟩
  have hRl:=runA_len (plantV n) rows (most:=6) (by decide)
  have hsh:shE (ruleT nums 2 2).flat ((plantV n).length:Int)=0→(ruleT nums 2 2).wf∧(ruleT nums 2 2).flat=(ruleT nums 2 2).flat:=fun _=>⟨hW.wf,rfl⟩
  have hPl:(plantV n).length=2:=rfl
  have h27:=q27 (ruleT nums 2 2).flat (plantV n) (ruleT nums 2 2) (runA (plantV n) rows 6) (by omega) (by omega) (by omega) hsh
  have h28:=q28 (ruleT nums 2 2).flat (plantV n) (ruleT nums 2 2) (runA (plantV n) rows 6) (by omega) (by omega) (by omega) hsh
  have h29:=q29 (ruleT nums 2 2).flat (plantV n) (ruleT nums 2 2) (runA (plantV n) rows 6) (by omega) (by omega) (by omega) hsh
  have h30:=q30 (ruleT nums 2 2).flat (plantV n) (ruleT nums 2 2) (runA (plantV n) rows 6) (by omega) (by omega) (by omega) hsh
  have k27:=q27 f p t T (by omega) (by omega) (by omega) ht
  have k28:=q28 f p t T (by omega) (by omega) (by omega) ht
  have k29:=q29 f p t T (by omega) (by omega) (by omega) ht
  have k30:=q30 f p t T (by omega) (by omega) (by omega) ht
  have who:∀ (g:List Nd) (q:List Ch) (s:Fm) (U:List (List Int)),(reWho g q s U).length≤4:=fun g q s U=>by
    unfold reWho
    split
    · exact whoL_len _ _ _ _ _
    · simp
  have k31:=q31 (reWho f p t T) (reWho f p t T) (by have:=who f p t T; omega)
  have h31:=q31 (reWho (ruleT nums 2 2).flat (plantV n) (ruleT nums 2 2) (runA (plantV n) rows 6)) (reWho (ruleT nums 2 2).flat (plantV n) (ruleT nums 2 2) (runA (plantV n) rows 6)) (by have:=who (ruleT nums 2 2).flat (plantV n) (ruleT nums 2 2) (runA (plantV n) rows 6); omega)
  rw [decide_eq_true rfl] at h31 k31
  clear who hsh hPl hRl hfl hW
  generalize reWho (ruleT nums 2 2).flat (plantV n) (ruleT nums 2 2) (runA (plantV n) rows 6)=w1 at *
  generalize reAt (ruleT nums 2 2).flat (plantV n) (ruleT nums 2 2) (runA (plantV n) rows 6)=a1 at *
  generalize reL (ruleT nums 2 2).flat (plantV n) (ruleT nums 2 2) (runA (plantV n) rows 6)=l1 at *
  generalize reE (ruleT nums 2 2).flat (plantV n) (ruleT nums 2 2) (runA (plantV n) rows 6)=e1 at *
  generalize psB (ruleT nums 2 2).flat (plantV n) (ruleT nums 2 2) (runA (plantV n) rows 6)=b1 at *
  generalize reWho f p t T=w0 at *
  generalize reAt f p t T=a0 at *
  generalize reL f p t T=l0 at *
  generalize reE f p t T=e0 at *
  generalize psB f p t T=b0 at *
  generalize (runA (plantV n) rows 6).map encR=U at *
  generalize (plantV n).map encCh=G at *
  generalize (ruleT nums 2 2).flat.map encNd=H at *
  generalize (ruleT nums 2 2).hz=hz at *
  push_cast at h25
  have bl:∀ b:Bool,(b != b)=false:=fun b=>by cases b <;> rfl
  have z01:((0:Int)==1)=false:=rfl
  have z11:((1:Int)==1)=true:=rfl
  refine pd_of (fn:=Tryz.f5) [.tmp 12] (by kernel_rfl) rfl (by kernel_rfl) (Nat.le_of_ble_eq_true rfl) (by kernel_rfl) rfl rfl ?_
  (repeat' (first | refine awp_seq ?_ | refine awp_skip ?_ | refine awp_block ?_ | ((first | ((fail_if_success refine awpF_region (id:=3) ?_); refine awpF_region ?_; intro K hK) | refine CallK.pd (h12) ?_ | refine CallK.pg (fun _=>h12) ?_ | refine CallK.pd (h13) ?_ | refine CallK.pg (fun _=>h13) ?_); simp only [push_cast,seval,d1,d2,d3,d4]; refine wObW ?_) | (refine hK _ ?_; clear hK K) | (refine wCd ?_ ?_) | (with_reducible intro hb; exfalso; revert hb; simp [d1,d2,d3,d4]; done) | (with_reducible intro hb; exfalso; replace hb:=wHb hb; omega; done) | (with_reducible intro hb; replace hb:=wHb hb) | (refine wEx ?_) | (refine wRp ?_; refine fin_of (by simp only [push_cast,seval,d1,d2,d3,d4]; first | done | rfl) ob1 ?_) | (refine inblock_norm ?_)))
  refine wRg ?_
  refine awp_block ?_
  refine awp_loopP (α:=Nat) (st:=fun k=>⟨[(0,.d (.sl (f.map encNd))),(1,.d (.sl (p.map encCh))),(2,.d (.sl (T.map encR))),(3,.d (.sl (nums.map encI))),(4,.d (.sl (rows.map encI))),(5,.d (.int .i64 n)),(13,.d (.int .i64 k))],[]⟩)
    (inv:=fun k=>k≤2) (μ:=fun k=>2 - k) (x0:=0) (r0:=[]) (Nat.zero_le _) ?_ ?_
  · exact wRen
  intro k hk
  rcases show k=0∨k=1∨k=2 by omega with rfl | rfl | rfl
  · refine awp_seq ?_
    refine awp_seq ?_
    refine wRg ?_
    refine wCd ?_ ?_
    · intro _
      (repeat' (first | refine awp_seq ?_ | refine awp_skip ?_ | refine awp_block ?_ | ((first | ((fail_if_success refine awpF_region (id:=5) ?_); refine awpF_region ?_; intro K hK) | refine CallK.pd (k27) ?_ | refine CallK.pg (fun _=>k27) ?_ | refine CallK.pd (k28) ?_ | refine CallK.pg (fun _=>k28) ?_ | refine CallK.pd (k29) ?_ | refine CallK.pg (fun _=>k29) ?_ | refine CallK.pd (k30) ?_ | refine CallK.pg (fun _=>k30) ?_ | refine CallK.pd (k31) ?_ | refine CallK.pg (fun _=>k31) ?_); simp only [push_cast,seval,bne_self_eq_false,bl,z01]; refine wObW ?_) | (refine hK _ ?_; clear hK K) | (refine wCd ?_ ?_) | (with_reducible intro hb; exfalso; revert hb; simp [bne_self_eq_false,bl,z01]; done) | (with_reducible intro hb; exfalso; replace hb:=wHb hb; omega; done) | (with_reducible intro hb; replace hb:=wHb hb) | (refine wEx ?_) | (refine wRp ?_; refine fin_of (by simp only [push_cast,seval,bne_self_eq_false,bl,z01]; first | done | rfl) ob1 ?_) | (refine inblock_norm ?_)))
      refine wRg ?_
      refine round_endG 1 [] ⟨by omega,by omega,?_⟩
      push_cast
      exact wRen
    · intro h; cases h
  · refine awp_seq ?_
    refine awp_seq ?_
    refine wRg ?_
    refine wCd ?_ ?_
    · intro _
      by_cases h4:hz > 4
      · have d5:decide (hz > 4)=true:=decide_eq_true h4
        (repeat' (first | refine awp_seq ?_ | refine awp_skip ?_ | refine awp_block ?_ | ((first | ((fail_if_success refine awpF_region (id:=5) ?_); refine awpF_region ?_; intro K hK) | refine CallK.pd (h24) ?_ | refine CallK.pg (fun _=>h24) ?_ | refine CallK.pd (h26) ?_ | refine CallK.pg (fun _=>h26) ?_ | refine CallK.pd (h25) ?_ | refine CallK.pg (fun _=>h25) ?_ | refine CallK.pd (h19) ?_ | refine CallK.pg (fun _=>h19) ?_); simp only [push_cast,seval,bne_self_eq_false,bl,z11,d5]; refine wObW ?_) | (refine hK _ ?_; clear hK K) | (refine wCd ?_ ?_) | (with_reducible intro hb; exfalso; revert hb; simp [bne_self_eq_false,bl,z11,d5]; done) | (with_reducible intro hb; exfalso; replace hb:=wHb hb; omega; done) | (with_reducible intro hb; replace hb:=wHb hb) | (refine wEx ?_) | (refine wRp ?_; refine fin_of (by simp only [push_cast,seval,bne_self_eq_false,bl,z11,d5]; first | done | rfl) ob1 ?_) | (refine inblock_norm ?_)))
        refine wRg ?_
        refine round_endG 2 [] ⟨by omega,by omega,?_⟩
        push_cast
        exact wRen
      · have d5:decide (hz > 4)=false:=decide_eq_false h4
        (repeat' (first | refine awp_seq ?_ | refine awp_skip ?_ | refine awp_block ?_ | ((first | ((fail_if_success refine awpF_region (id:=5) ?_); refine awpF_region ?_; intro K hK) | refine CallK.pd (h24) ?_ | refine CallK.pg (fun _=>h24) ?_ | refine CallK.pd (h26) ?_ | refine CallK.pg (fun _=>h26) ?_ | refine CallK.pd (h25) ?_ | refine CallK.pg (fun _=>h25) ?_ | refine CallK.pd (h19) ?_ | refine CallK.pg (fun _=>h19) ?_ | refine CallK.pd (h27) ?_ | refine CallK.pg (fun _=>h27) ?_ | refine CallK.pd (h28) ?_ | refine CallK.pg (fun _=>h28) ?_ | refine CallK.pd (h29) ?_ | refine CallK.pg (fun _=>h29) ?_ | refine CallK.pd (h30) ?_ | refine CallK.pg (fun _=>h30) ?_ | refine CallK.pd (h31) ?_ | refine CallK.pg (fun _=>h31) ?_); simp only [push_cast,seval,bne_self_eq_false,bl,z11,d5]; refine wObW ?_) | (refine hK _ ?_; clear hK K) | (refine wCd ?_ ?_) | (with_reducible intro hb; exfalso; revert hb; simp [bne_self_eq_false,bl,z11,d5]; done) | (with_reducible intro hb; exfalso; replace hb:=wHb hb; omega; done) | (with_reducible intro hb; replace hb:=wHb hb) | (refine wEx ?_) | (refine wRp ?_; refine fin_of (by simp only [push_cast,seval,bne_self_eq_false,bl,z11,d5]; first | done | rfl) ob1 ?_) | (refine inblock_norm ?_)))
        refine wRg ?_
        refine round_endG 2 [] ⟨by omega,by omega,?_⟩
        push_cast
        exact wRen
    · intro h; cases h
  · refine awp_seq ?_
    refine awp_seq ?_
    refine wRg ?_
    refine wCd ?_ ?_
    · intro h; cases h
    intro _
    (repeat' (first | refine awp_seq ?_ | refine awp_skip ?_ | refine awp_block ?_ | ((first | (refine awpF_region ?_; intro K hK) | refine CallK.pd (h13) ?_ | refine CallK.pg (fun _=>h13) ?_); refine wXo ?_) | (refine hK _ ?_; clear hK K) | (refine wCd ?_ ?_) | (with_reducible intro hb; exfalso; revert hb; simp []; done) | (with_reducible intro hb; exfalso; replace hb:=wHb hb; omega; done) | (with_reducible intro hb; replace hb:=wHb hb) | (refine wEx ?_) | (refine wRet ?_) | (refine inblock_norm ?_)))
    rfl
end Go.Aw
