/-
  RulesEvals answers true. Conditions: lengths and numbers that a call can have.
-/
import Derived.Test.YtlimahhonfckdaaDoorPxU44a
import Derived.Test.YtlimahhonfckdaaDoorPxU41
import Derived.Test.YtlimahhonfckdaaDoorRuH
namespace Go.Aw
set_option linter.unusedSimpArgs false
set_option linter.unusedVariables false
open Go.RowKit Go.Proofs
set_option maxRecDepth 100000

set_option maxHeartbeats 1000000 in
theorem p4 (f : List Nd) (w : Int) (t : List (List Int)) (at' : Int) (nums rows : List Int) (hf : f.length ≤ 1000000000000000) (ht : t.length ≤ 1000000000000000) (hr : ∀ r, r ∈ t → r.length ≤ 1000000000000000) (ha : at' ≤ 9223372036854775807) (hn : numsOk nums) (hrw : numsOk rows) :
    PD Tryd.prog 4 [.sl (f.map encNd), .int .i64 w, .sl (t.map encR), .int .i64 at', .sl (nums.map encI), .sl (rows.map encI)] (.d (.bool true)) := by
  have h12 := p12 t (by omega)
  have h13 := p13
  generalize hcv : IntKind.i64.wrap (cellsV t) = cv at *
  by_cases h1 : 20 < f.length
  · have hd : decide ((f.length : Int) > 20) = true := decide_eq_true (by omega)
    refine pd_of (fn := Tryd.f4) [.tmp 12] (by kernel_rfl) rfl (by kernel_rfl) (Nat.le_of_ble_eq_true rfl) (by kernel_rfl) rfl rfl ?_
    (repeat' (first | refine awp_seq ?_ | refine awp_skip ?_ | refine awp_block ?_ | ((first | (refine awpF_region ?_; intro K hK) | refine CallK.pd (h12) ?_ | refine CallK.pg (fun _ => h12) ?_ | refine CallK.pd (h13) ?_ | refine CallK.pg (fun _ => h13) ?_); simp only [push_cast, seval, hd]; (try simp (disch := omega) only [wrapI]); (repeat ((with_reducible refine And.intro ?_ ?_); (focus (exact ob1))))) | (refine hK _ ?_; clear hK K) | (apply awp_cond; (focus (simp only [push_cast, seval]; rfl))) | (with_reducible intro hb; exfalso; revert hb; simp [hd]; done) | (with_reducible intro hb; exfalso; (try simp only [decide_eq_true_eq, decide_eq_false_iff_not, Bool.not_eq_true', Bool.not_eq_false', Bool.and_eq_true, Bool.or_eq_true, Bool.not_eq_true] at hb); omega; done) | (with_reducible intro hb; (try simp only [decide_eq_true_eq, decide_eq_false_iff_not, Bool.not_eq_true', Bool.not_eq_false', Bool.and_eq_true, Bool.or_eq_true, Bool.not_eq_true] at hb)) | (refine awp_exit ?_; (repeat (first | refine then_exit ?_ | refine inblock_other (by decide) ?_)); refine inblock_same ?_) | (refine awp_ret ?_; (repeat (first | refine then_ret ?_ | refine inblock_ret ?_ | refine nogoto_ret ?_)); refine fin_of (by simp only [push_cast, seval, hd]; first | done | rfl) ob1 ?_) | (refine inblock_norm ?_)))
    rfl
  have hd1 : decide ((f.length : Int) > 20) = false := decide_eq_false (by omega)
  by_cases h3 : 120 < cv
  · have hd : decide (cv > 120) = true := decide_eq_true (by omega)
    refine pd_of (fn := Tryd.f4) [.tmp 12] (by kernel_rfl) rfl (by kernel_rfl) (Nat.le_of_ble_eq_true rfl) (by kernel_rfl) rfl rfl ?_
    (repeat' (first | refine awp_seq ?_ | refine awp_skip ?_ | refine awp_block ?_ | ((first | (refine awpF_region ?_; intro K hK) | refine CallK.pd (h12) ?_ | refine CallK.pg (fun _ => h12) ?_ | refine CallK.pd (h13) ?_ | refine CallK.pg (fun _ => h13) ?_); simp only [push_cast, seval, hd1, hd]; (try simp (disch := omega) only [wrapI]); (repeat ((with_reducible refine And.intro ?_ ?_); (focus (exact ob1))))) | (refine hK _ ?_; clear hK K) | (apply awp_cond; (focus (simp only [push_cast, seval]; rfl))) | (with_reducible intro hb; exfalso; revert hb; simp [hd1, hd]; done) | (with_reducible intro hb; exfalso; (try simp only [decide_eq_true_eq, decide_eq_false_iff_not, Bool.not_eq_true', Bool.not_eq_false', Bool.and_eq_true, Bool.or_eq_true, Bool.not_eq_true] at hb); omega; done) | (with_reducible intro hb; (try simp only [decide_eq_true_eq, decide_eq_false_iff_not, Bool.not_eq_true', Bool.not_eq_false', Bool.and_eq_true, Bool.or_eq_true, Bool.not_eq_true] at hb)) | (refine awp_exit ?_; (repeat (first | refine then_exit ?_ | refine inblock_other (by decide) ?_)); refine inblock_same ?_) | (refine awp_ret ?_; (repeat (first | refine then_ret ?_ | refine inblock_ret ?_ | refine nogoto_ret ?_)); refine fin_of (by simp only [push_cast, seval, hd1, hd]; first | done | rfl) ob1 ?_) | (refine inblock_norm ?_)))
    rfl
  have hd3 : decide (cv > 120) = false := decide_eq_false (by omega)
  by_cases h2 : 120 < t.length
  · have hd : decide ((t.length : Int) > 120) = true := decide_eq_true (by omega)
    refine pd_of (fn := Tryd.f4) [.tmp 12] (by kernel_rfl) rfl (by kernel_rfl) (Nat.le_of_ble_eq_true rfl) (by kernel_rfl) rfl rfl ?_
    (repeat' (first | refine awp_seq ?_ | refine awp_skip ?_ | refine awp_block ?_ | ((first | (refine awpF_region ?_; intro K hK) | refine CallK.pd (h12) ?_ | refine CallK.pg (fun _ => h12) ?_ | refine CallK.pd (h13) ?_ | refine CallK.pg (fun _ => h13) ?_); simp only [push_cast, seval, hd1, hd3, hd]; (try simp (disch := omega) only [wrapI]); (repeat ((with_reducible refine And.intro ?_ ?_); (focus (exact ob1))))) | (refine hK _ ?_; clear hK K) | (apply awp_cond; (focus (simp only [push_cast, seval]; rfl))) | (with_reducible intro hb; exfalso; revert hb; simp [hd1, hd3, hd]; done) | (with_reducible intro hb; exfalso; (try simp only [decide_eq_true_eq, decide_eq_false_iff_not, Bool.not_eq_true', Bool.not_eq_false', Bool.and_eq_true, Bool.or_eq_true, Bool.not_eq_true] at hb); omega; done) | (with_reducible intro hb; (try simp only [decide_eq_true_eq, decide_eq_false_iff_not, Bool.not_eq_true', Bool.not_eq_false', Bool.and_eq_true, Bool.or_eq_true, Bool.not_eq_true] at hb)) | (refine awp_exit ?_; (repeat (first | refine then_exit ?_ | refine inblock_other (by decide) ?_)); refine inblock_same ?_) | (refine awp_ret ?_; (repeat (first | refine then_ret ?_ | refine inblock_ret ?_ | refine nogoto_ret ?_)); refine fin_of (by simp only [push_cast, seval, hd1, hd3, hd]; first | done | rfl) ob1 ?_) | (refine inblock_norm ?_)))
    rfl
  have hd2 : decide ((t.length : Int) > 120) = false := decide_eq_false (by omega)
  obtain ⟨t1, ht1⟩ := tree_ex f w
  have h24 := p24 f w t1 t at' (by omega) ht1 ha
  have h25 := p25 f w t1 t at' (by omega) ht1 ha
  generalize evV f w t1 t at' = v1 at *
  generalize evE f w t1 t at' = e1 at *
  have h26 := p26 nums 3 4 hn.1 hn.2 ⟨by decide, by decide⟩ ⟨by decide, by decide⟩
  rw [show (partT nums 3 4 3 0).1 = ruleT nums 3 4 from rfl] at h26
  have h27 := p27 rows 3 20 hrw.1 hrw.2 (by decide) (by decide)
  have hT := trace_len rows 3 20
  generalize traceT rows 3 20 = T at *
  have hfl := rule_len nums (w := 3) (most := 4) ⟨by decide, by decide⟩ ⟨by decide, by decide⟩
  have hwf := (rule_W nums (w := 3) (most := 4) ⟨by decide, by decide⟩ ⟨by decide, by decide⟩).wf
  have e24 := fun (i : Nat) (hi : i ≤ 20) => p24 (ruleT nums 3 4).flat 3 (ruleT nums 3 4) T i (by omega) (fun _ => ⟨hwf, rfl⟩) (by omega)
  have e25 := fun (i : Nat) (hi : i ≤ 20) => p25 (ruleT nums 3 4).flat 3 (ruleT nums 3 4) T i (by omega) (fun _ => ⟨hwf, rfl⟩) (by omega)
  generalize hfv : (fun i : Nat => evV (ruleT nums 3 4).flat 3 (ruleT nums 3 4) T i) = fv at *
  generalize hfe : (fun i : Nat => evE (ruleT nums 3 4).flat 3 (ruleT nums 3 4) T i) = fe at *
  have k1 : ∀ i : Nat, evV (ruleT nums 3 4).flat 3 (ruleT nums 3 4) T i = fv i := fun i => by rw [← hfv]
  have k2 : ∀ i : Nat, evE (ruleT nums 3 4).flat 3 (ruleT nums 3 4) T i = fe i := fun i => by rw [← hfe]
  simp only [k1, k2] at e24 e25
  clear k1 k2 hfv hfe
  generalize (ruleT nums 3 4).flat.map encNd = F at *
  push_cast at h27
  refine pd_of (fn := Tryd.f4) [.tmp 12] (by kernel_rfl) rfl (by kernel_rfl) (Nat.le_of_ble_eq_true rfl) (by kernel_rfl) rfl rfl ?_
  (repeat' (first | refine awp_seq ?_ | refine awp_skip ?_ | refine awp_block ?_ | ((first | ((fail_if_success refine awpF_region (id := 7) ?_); refine awpF_region ?_; intro K hK) | refine CallK.pd (h12) ?_ | refine CallK.pg (fun _ => h12) ?_ | refine CallK.pd (h24) ?_ | refine CallK.pg (fun _ => h24) ?_ | refine CallK.pd (h25) ?_ | refine CallK.pg (fun _ => h25) ?_); simp only [push_cast, seval, hd1, hd2, hd3, bne_self_eq_false]; (try simp (disch := omega) only [wrapI]); (repeat ((with_reducible refine And.intro ?_ ?_); (focus (exact ob1))))) | (refine hK _ ?_; clear hK K) | (apply awp_cond; (focus (simp only [push_cast, seval]; rfl))) | (with_reducible intro hb; exfalso; revert hb; simp [hd1, hd2, hd3, bne_self_eq_false]; done) | (with_reducible intro hb; exfalso; (try simp only [decide_eq_true_eq, decide_eq_false_iff_not, Bool.not_eq_true', Bool.not_eq_false', Bool.and_eq_true, Bool.or_eq_true, Bool.not_eq_true] at hb); omega; done) | (with_reducible intro hb; (try simp only [decide_eq_true_eq, decide_eq_false_iff_not, Bool.not_eq_true', Bool.not_eq_false', Bool.and_eq_true, Bool.or_eq_true, Bool.not_eq_true] at hb)) | (refine awp_exit ?_; (repeat (first | refine then_exit ?_ | refine inblock_other (by decide) ?_)); refine inblock_same ?_) | (refine awp_ret ?_; (repeat (first | refine then_ret ?_ | refine inblock_ret ?_ | refine nogoto_ret ?_)); refine fin_of (by simp only [push_cast, seval, hd1, hd2, hd3, bne_self_eq_false]; first | done | rfl) ob1 ?_) | (refine inblock_norm ?_)))
  refine awpF_region ?_; intro K hK; simp only [push_cast, seval]
  refine CallK.pd (h26) ?_; simp only [push_cast, seval]; (try simp (disch := omega) only [wrapI]); (repeat ((with_reducible refine And.intro ?_ ?_); (focus (exact ob1))))
  refine CallK.pd (h27) ?_; simp only [push_cast, seval]; (try simp (disch := omega) only [wrapI]); (repeat ((with_reducible refine And.intro ?_ ?_); (focus (exact ob1))))
  refine hK _ ?_; clear hK K
  refine awp_seq ?_
  refine awp_seq ?_
  refine awpF_region ?_; intro K hK; simp only [push_cast, seval]; (try simp (disch := omega) only [wrapI]); (repeat ((with_reducible refine And.intro ?_ ?_); (focus (exact ob1)))); refine hK _ ?_; clear hK K
  refine awp_block ?_
  refine awp_loopP (α := Nat) (st := fun i => ⟨[(17, .d (.sl F)), (18, .d (.sl (T.map encR))), (19, .d (.int .i64 i))], []⟩) (inv := fun i => i ≤ T.length + 1) (μ := fun i => T.length + 1 - i) (x0 := 0) (r0 := []) (Nat.zero_le _) ?_ ?_
  · exact ⟨by simp, by simp, by simp [push_cast, seval], by simp [push_cast, seval], by simp [push_cast, seval], by simp [push_cast, seval]⟩
  intro i hi
  refine awp_seq ?_
  refine awp_seq ?_
  refine awpF_region ?_; intro K hK; simp only [push_cast, seval]; (try simp (disch := omega) only [wrapI]); (repeat ((with_reducible refine And.intro ?_ ?_); (focus (exact ob1)))); refine hK _ ?_; clear hK K
  apply awp_cond; (focus (simp only [push_cast, seval]; rfl))
  · intro h4; (try simp only [decide_eq_true_eq, decide_eq_false_iff_not, Bool.not_eq_true', Bool.not_eq_false', Bool.and_eq_true, Bool.or_eq_true, Bool.not_eq_true] at h4)
    have hi20 : i ≤ 20 := by omega
    refine awp_skip ?_
    refine awp_seq ?_
    refine awp_block ?_
    refine awp_seq ?_
    refine awpF_region ?_; intro K hK; simp only [push_cast, seval]
    refine CallK.pd (e24 i hi20) ?_; simp only [push_cast, seval]; (try simp (disch := omega) only [wrapI]); (repeat ((with_reducible refine And.intro ?_ ?_); (focus (exact ob1))))
    refine hK _ ?_; clear hK K
    refine awp_seq ?_
    refine awpF_region ?_; intro K hK; simp only [push_cast, seval]
    refine CallK.pd (e25 i hi20) ?_; simp only [push_cast, seval]; (try simp (disch := omega) only [wrapI]); (repeat ((with_reducible refine And.intro ?_ ?_); (focus (exact ob1))))
    refine hK _ ?_; clear hK K
    refine awp_seq ?_
    refine awpF_region ?_; intro K hK; simp only [push_cast, seval, bne_self_eq_false]; (try simp (disch := omega) only [wrapI]); (repeat ((with_reducible refine And.intro ?_ ?_); (focus (exact ob1)))); refine hK _ ?_; clear hK K
    apply awp_cond; (focus (simp only [push_cast, seval]; rfl))
    · intro h
      cases h
    intro _
    refine awp_skip ?_
    refine inblock_norm ?_
    refine awpF_region ?_; intro K hK; simp only [push_cast, seval]; (try simp (disch := omega) only [wrapI]); (repeat ((with_reducible refine And.intro ?_ ?_); (focus (exact ob1)))); refine hK _ ?_; clear hK K
    refine round_endG (i + 1) ([]) ⟨by omega, by omega, ?_⟩
    push_cast
    exact ⟨by simp, by simp, by simp [push_cast, seval], by simp [push_cast, seval], by simp [push_cast, seval], by simp [push_cast, seval]⟩
  · intro h4; (try simp only [decide_eq_true_eq, decide_eq_false_iff_not, Bool.not_eq_true', Bool.not_eq_false', Bool.and_eq_true, Bool.or_eq_true, Bool.not_eq_true] at h4)
    refine awp_exit ?_; (repeat (first | refine then_exit ?_ | refine inblock_other (by decide) ?_)); refine inblock_same ?_
    refine awp_seq ?_
    refine awpF_region ?_; intro K hK; simp only [push_cast, seval]
    refine CallK.pd (h13) ?_; simp only [push_cast, seval]; (try simp (disch := omega) only [wrapI]); (repeat ((with_reducible refine And.intro ?_ ?_); (focus (exact ob1))))
    refine hK _ ?_; clear hK K
    refine awp_ret ?_; (repeat (first | refine then_ret ?_ | refine inblock_ret ?_ | refine nogoto_ret ?_)); refine fin_of (by simp only [push_cast, seval]; first | done | rfl) ob1 ?_
    rfl
end Go.Aw
