/-
  Contracts: rates, what is fair, what is within. No condition where a bound is checked by the program itself.
-/
import Derived.Test.YtmmnjelmahcbaaaN10
namespace Go.Aw
set_option linter.unusedSimpArgs false
set_option linter.unusedVariables false
open Go.RowKit Go.Proofs Go.Nt Go.Rl

def rateB (num den : Int) : Bool := decide (1 ≤ den ∧ den ≤ 1000 ∧ 0 ≤ num ∧ num ≤ den)
def fairB (n k : Int) : Bool := decide (0 ≤ k ∧ k ≤ n ∧ n ≤ 60)
theorem rateB_iff {num den : Int} : rateB num den = true ↔ 1 ≤ den ∧ den ≤ 1000 ∧ 0 ≤ num ∧ num ≤ den := by simp [rateB]
theorem fairB_iff {n k : Int} : fairB n k = true ↔ 0 ≤ k ∧ k ≤ n ∧ n ≤ 60 := by simp [fairB]

theorem bif_or (a b : Bool) : (bif a then true else b) = (a || b) := by cases a <;> rfl
theorem bif_and (a b : Bool) : (bif a then b else false) = (a && b) := by cases a <;> rfl

theorem p17 (num den : Int) : PD Try.prog 17 [.agg [.int .i64 num, .int .i64 den]] (.d (.int .i64 (if rateB num den then 0 else 2))) := by
  refine pd_of (fn := Try.f17) [.tmp 2] (by kernel_rfl) rfl (by kernel_rfl) (Nat.le_of_ble_eq_true rfl) (by kernel_rfl) rfl rfl ?_
  refine awp_seq ?_
  refine awpF_region ?_; intro K hK; simp only [push_cast, seval]; (try simp (disch := omega) only [wrapI]); (repeat ((with_reducible refine And.intro ?_ ?_); (focus (first | omega | trivial | assumption | (intro _ hrow; obtain ⟨_, _, rfl⟩ := List.mem_map.1 hrow; rfl) | ((intros; repeat' apply And.intro) <;> first | omega | trivial | assumption | (intro _ hrow; obtain ⟨_, _, rfl⟩ := List.mem_map.1 hrow; rfl) | (simp_all; done) | (simp_all; omega)))))); refine hK _ ?_; clear hK; clear K
  refine awp_seq ?_
  refine awp_seq ?_
  refine awpF_region ?_; intro K hK; simp only [push_cast, seval]; (try simp (disch := omega) only [wrapI]); (repeat ((with_reducible refine And.intro ?_ ?_); (focus (first | omega | trivial | assumption | (intro _ hrow; obtain ⟨_, _, rfl⟩ := List.mem_map.1 hrow; rfl) | ((intros; repeat' apply And.intro) <;> first | omega | trivial | assumption | (intro _ hrow; obtain ⟨_, _, rfl⟩ := List.mem_map.1 hrow; rfl) | (simp_all; done) | (simp_all; omega)))))); refine hK _ ?_; clear hK; clear K
  apply awp_cond; (focus (simp only [push_cast, seval]; rfl))
  · intro h1; (try simp only [decide_eq_true_eq, decide_eq_false_iff_not, Bool.not_eq_true', Bool.not_eq_false', Bool.and_eq_true, Bool.or_eq_true, Bool.not_eq_true] at h1)
    refine awp_seq ?_
    refine awpF_region ?_; intro K hK; simp only [push_cast, seval]; (try simp (disch := omega) only [wrapI]); (repeat ((with_reducible refine And.intro ?_ ?_); (focus (first | omega | trivial | assumption | (intro _ hrow; obtain ⟨_, _, rfl⟩ := List.mem_map.1 hrow; rfl) | ((intros; repeat' apply And.intro) <;> first | omega | trivial | assumption | (intro _ hrow; obtain ⟨_, _, rfl⟩ := List.mem_map.1 hrow; rfl) | (simp_all; done) | (simp_all; omega)))))); refine hK _ ?_; clear hK; clear K
    refine awp_ret ?_; (repeat (first | refine then_ret ?_ | refine inblock_ret ?_)); refine fin_of (by simp only [push_cast, seval]; first | done | rfl) (by first | trivial | first | omega | trivial | assumption | (intro _ hrow; obtain ⟨_, _, rfl⟩ := List.mem_map.1 hrow; rfl) | ((intros; repeat' apply And.intro) <;> first | omega | trivial | assumption | (intro _ hrow; obtain ⟨_, _, rfl⟩ := List.mem_map.1 hrow; rfl) | (simp_all; done) | (simp_all; omega))) ?_
    have : rateB num den = false := by
      simp only [bif_or, Bool.or_eq_true, decide_eq_true_eq] at h1
      simp only [rateB, decide_eq_false_iff_not]
      omega
    rw [this]; rfl
  · intro h1; (try simp only [decide_eq_true_eq, decide_eq_false_iff_not, Bool.not_eq_true', Bool.not_eq_false', Bool.and_eq_true, Bool.or_eq_true, Bool.not_eq_true] at h1)
    refine awp_skip ?_
    refine awp_seq ?_
    refine awpF_region ?_; intro K hK; simp only [push_cast, seval]; (try simp (disch := omega) only [wrapI]); (repeat ((with_reducible refine And.intro ?_ ?_); (focus (first | omega | trivial | assumption | (intro _ hrow; obtain ⟨_, _, rfl⟩ := List.mem_map.1 hrow; rfl) | ((intros; repeat' apply And.intro) <;> first | omega | trivial | assumption | (intro _ hrow; obtain ⟨_, _, rfl⟩ := List.mem_map.1 hrow; rfl) | (simp_all; done) | (simp_all; omega)))))); refine hK _ ?_; clear hK; clear K
    refine awp_ret ?_; (repeat (first | refine then_ret ?_ | refine inblock_ret ?_)); refine fin_of (by simp only [push_cast, seval]; first | done | rfl) (by first | trivial | first | omega | trivial | assumption | (intro _ hrow; obtain ⟨_, _, rfl⟩ := List.mem_map.1 hrow; rfl) | ((intros; repeat' apply And.intro) <;> first | omega | trivial | assumption | (intro _ hrow; obtain ⟨_, _, rfl⟩ := List.mem_map.1 hrow; rfl) | (simp_all; done) | (simp_all; omega))) ?_
    have : rateB num den = true := by
      simp only [bif_or, Bool.or_eq_false_iff, decide_eq_false_iff_not] at h1
      simp only [rateB, decide_eq_true_eq]
      omega
    rw [this]; rfl

theorem p51 (n k : Int) : PD Try.prog 51 [.int .i64 n, .int .i64 k] (.d (.bool (fairB n k))) := by
  refine pd_of (fn := Try.f51) [.tmp 4] (by kernel_rfl) rfl (by kernel_rfl) (Nat.le_of_ble_eq_true rfl) (by kernel_rfl) rfl rfl ?_
  refine awp_seq ?_
  refine awpF_region ?_; intro K hK; simp only [push_cast, seval]; (try simp (disch := omega) only [wrapI]); (repeat ((with_reducible refine And.intro ?_ ?_); (focus (first | omega | trivial | assumption | (intro _ hrow; obtain ⟨_, _, rfl⟩ := List.mem_map.1 hrow; rfl) | ((intros; repeat' apply And.intro) <;> first | omega | trivial | assumption | (intro _ hrow; obtain ⟨_, _, rfl⟩ := List.mem_map.1 hrow; rfl) | (simp_all; done) | (simp_all; omega)))))); refine hK _ ?_; clear hK; clear K
  refine awp_seq ?_
  refine awpF_region ?_; intro K hK; simp only [push_cast, seval]; (try simp (disch := omega) only [wrapI]); (repeat ((with_reducible refine And.intro ?_ ?_); (focus (first | omega | trivial | assumption | (intro _ hrow; obtain ⟨_, _, rfl⟩ := List.mem_map.1 hrow; rfl) | ((intros; repeat' apply And.intro) <;> first | omega | trivial | assumption | (intro _ hrow; obtain ⟨_, _, rfl⟩ := List.mem_map.1 hrow; rfl) | (simp_all; done) | (simp_all; omega)))))); refine hK _ ?_; clear hK; clear K
  refine awp_ret ?_; (repeat (first | refine then_ret ?_ | refine inblock_ret ?_)); refine fin_of (by simp only [push_cast, seval]; first | done | rfl) (by first | trivial | first | omega | trivial | assumption | (intro _ hrow; obtain ⟨_, _, rfl⟩ := List.mem_map.1 hrow; rfl) | ((intros; repeat' apply And.intro) <;> first | omega | trivial | assumption | (intro _ hrow; obtain ⟨_, _, rfl⟩ := List.mem_map.1 hrow; rfl) | (simp_all; done) | (simp_all; omega))) ?_
  simp only [bif_and, fairB, Bool.decide_and, Bool.and_assoc]

theorem p52l (n k rn rd : Int) (hr : rateB rn rd = true) (hf : fairB n k = true) : PD Try.prog 52 [.int .i64 n, .int .i64 0, .int .i64 k, .agg [.int .i64 rn, .int .i64 rd]] (.d (Go.Aw.D.sl ((digs B64 (lo rn.toNat (rd - rn).toNat n.toNat (k.toNat + 1))).map encW))) := by
  obtain ⟨h1, h2, h3, h4⟩ := rateB_iff.1 hr
  obtain ⟨h5, h6, h7⟩ := fairB_iff.1 hf
  have h := p52 n.toNat 0 k.toNat rn.toNat rd.toNat (by omega) (by omega) (by omega) (by omega)
  rw [Nat.zero_add, Int.toNat_of_nonneg (by omega), Int.toNat_of_nonneg (by omega), Int.toNat_of_nonneg (by omega), Int.toNat_of_nonneg (by omega), show rd.toNat - rn.toNat = (rd - rn).toNat by omega, sumN_zero] at h
  exact h

theorem p52u (n k rn rd : Int) (hr : rateB rn rd = true) (hf : fairB n k = true) : PD Try.prog 52 [.int .i64 n, .int .i64 k, .int .i64 n, .agg [.int .i64 rn, .int .i64 rd]] (.d (Go.Aw.D.sl ((digs B64 (sumN (cs rn.toNat (rd - rn).toNat n.toNat) k.toNat (n.toNat - k.toNat + 1))).map encW))) := by
  obtain ⟨h1, h2, h3, h4⟩ := rateB_iff.1 hr
  obtain ⟨h5, h6, h7⟩ := fairB_iff.1 hf
  have h := p52 n.toNat k.toNat (n.toNat - k.toNat) rn.toNat rd.toNat (by omega) (by omega) (by omega) (by omega)
  rw [show k.toNat + (n.toNat - k.toNat) = n.toNat by omega, Int.toNat_of_nonneg (by omega), Int.toNat_of_nonneg (by omega), Int.toNat_of_nonneg (by omega), Int.toNat_of_nonneg (by omega), show rd.toNat - rn.toNat = (rd - rn).toNat by omega] at h
  exact h

theorem p53i (n k rn rd : Int) (hr : rateB rn rd = true) (hf : fairB n k = true) : PD Try.prog 53 [.int .i64 rd, .int .i64 n] (.d (Go.Aw.D.sl ((digs B64 (rd.toNat ^ n.toNat)).map encW))) := by
  obtain ⟨h1, h2, h3, h4⟩ := rateB_iff.1 hr
  obtain ⟨h5, h6, h7⟩ := fairB_iff.1 hf
  have h := p53 rd.toNat n.toNat (by omega) (by omega)
  rw [Int.toNat_of_nonneg (by omega), Int.toNat_of_nonneg (by omega)] at h
  exact h

theorem p64 (part whole : Nat) (an ad : Int) (ha : rateB an ad = true) (hp : nw part ≤ 100) (hw : nw whole ≤ 100) : PD Try.prog 64 [(Go.Aw.D.sl ((digs B64 (part)).map encW)), (Go.Aw.D.sl ((digs B64 (whole)).map encW)), .agg [.int .i64 an, .int .i64 ad]] (.d (.bool (decide (part * ad.toNat ≤ whole * an.toNat)))) := by
  obtain ⟨h1, h2, h3, h4⟩ := rateB_iff.1 ha
  obtain ⟨n, rfl⟩ : ∃ n : Nat, an = n := ⟨an.toNat, by omega⟩
  obtain ⟨d, rfl⟩ : ∃ d : Nat, ad = d := ⟨ad.toNat, by omega⟩
  rw [Int.toNat_natCast, Int.toNat_natCast]
  have hn : IntKind.u64.wrap (n : Int) = n := uwn n (by omega)
  have hd : IntKind.u64.wrap (d : Int) = d := uwn d (by omega)
  have nwn : nw n ≤ 1 := digs_len (by decide) 1 n (by simp only [B64]; omega)
  have nwd : nw d ≤ 1 := digs_len (by decide) 1 d (by simp only [B64]; omega)
  have h56a := p56 part d (by omega) (by omega)
  have h56b := p56 whole n (by omega) (by omega)
  have h54 := p54 (part * d) (whole * n) (by have := nw_mul part d; omega) (by have := nw_mul whole n; omega)
  refine pd_of (fn := Try.f64) [.tmp 6] (by kernel_rfl) rfl (by kernel_rfl) (Nat.le_of_ble_eq_true rfl) (by kernel_rfl) rfl rfl ?_
  refine awp_seq ?_
  refine awpF_region ?_; intro K hK; simp only [push_cast, seval]; (try simp (disch := omega) only [wrapI]); (repeat ((with_reducible refine And.intro ?_ ?_); (focus (first | omega | trivial | assumption | (intro _ hrow; obtain ⟨_, _, rfl⟩ := List.mem_map.1 hrow; rfl) | ((intros; repeat' apply And.intro) <;> first | omega | trivial | assumption | (intro _ hrow; obtain ⟨_, _, rfl⟩ := List.mem_map.1 hrow; rfl) | (simp_all; done) | (simp_all; omega)))))); refine hK _ ?_; clear hK; clear K
  refine awp_seq ?_
  refine awpF_draw [0,1,2,3,5,6,7,8,4,9,10,11,12] (by kernel_rfl) (by kernel_rfl) rfl ?_; intro K hK; simp only [push_cast, seval, hn, hd]
  refine CallK.pd (h56a) ?_; simp only [push_cast, seval]; (try simp (disch := omega) only [wrapI]); (repeat ((with_reducible refine And.intro ?_ ?_); (focus (first | omega | trivial | assumption | (intro _ hrow; obtain ⟨_, _, rfl⟩ := List.mem_map.1 hrow; rfl) | ((intros; repeat' apply And.intro) <;> first | omega | trivial | assumption | (intro _ hrow; obtain ⟨_, _, rfl⟩ := List.mem_map.1 hrow; rfl) | (simp_all; done) | (simp_all; omega))))))
  refine CallK.pd (h56b) ?_; simp only [push_cast, seval]; (try simp (disch := omega) only [wrapI]); (repeat ((with_reducible refine And.intro ?_ ?_); (focus (first | omega | trivial | assumption | (intro _ hrow; obtain ⟨_, _, rfl⟩ := List.mem_map.1 hrow; rfl) | ((intros; repeat' apply And.intro) <;> first | omega | trivial | assumption | (intro _ hrow; obtain ⟨_, _, rfl⟩ := List.mem_map.1 hrow; rfl) | (simp_all; done) | (simp_all; omega))))))
  refine CallK.rel h54 ?_
  intro x' H' hR
  obtain ⟨c, hx', hH', hc1, hc2⟩ := hR
  subst hx'
  subst hH'
  simp only [push_cast, seval]
  refine hK _ ?_; clear hK; clear K
  refine awp_ret ?_; (repeat (first | refine then_ret ?_ | refine inblock_ret ?_)); refine fin_of (by simp only [push_cast, seval]; first | done | rfl) (by first | trivial | first | omega | trivial | assumption | (intro _ hrow; obtain ⟨_, _, rfl⟩ := List.mem_map.1 hrow; rfl) | ((intros; repeat' apply And.intro) <;> first | omega | trivial | assumption | (intro _ hrow; obtain ⟨_, _, rfl⟩ := List.mem_map.1 hrow; rfl) | (simp_all; done) | (simp_all; omega))) ?_
  have : decide (part * d ≤ whole * n) = decide (c ≤ 0) := by
    simp only [decide_eq_decide]
    omega
  rw [this]
end Go.Aw
