/-
  Contracts: what shows that one version is worse than another one. No condition.
-/
import Derived.Test.YtmmnjelmahcbaaaN13
import Derived.Test.YtmmnjelmahcbaaaRlB
namespace Go.Aw
set_option linter.unusedSimpArgs false
set_option linter.unusedVariables false
open Go.RowKit Go.Proofs Go.Nt Go.Rl

/-- Of both versions' cases with s failures together: those with i failures of the first one. -/
def wt (n m s i : Nat) : Nat := if i ≤ s then cs 1 1 n i * cs 1 1 m (s - i) else 0
def wtK (n m s k i : Nat) : Nat := if k ≤ i then wt n m s i else 0
theorem wt_le (n m s i : Nat) : wt n m s i ≤ 2 ^ m * cs 1 1 n i := by
  unfold wt
  split
  · rw [Nat.mul_comm]; exact Nat.mul_le_mul_right _ (cs_le 1 1 m _)
  · exact Nat.zero_le _
theorem sum_wt_le (n m s t : Nat) : sumF (wt n m s) t ≤ 2 ^ m * 2 ^ n := by
  have h1 : sumF (wt n m s) t ≤ sumF (fun i => 2 ^ m * cs 1 1 n i) t := sumF_le fun i _ => wt_le n m s i
  rw [sumF_mul] at h1
  have h2 := lo_le 1 1 n t
  exact Nat.le_trans h1 (Nat.mul_le_mul_left _ h2)
theorem sum_wtK_le (n m s k t : Nat) : sumF (wtK n m s k) t ≤ 2 ^ m * 2 ^ n := by
  refine Nat.le_trans (sumF_le fun i _ => ?_) (sum_wt_le n m s t)
  unfold wtK
  split
  · exact Nat.le_refl _
  · exact Nat.zero_le _
theorem nw_two {n m : Nat} (hn : n ≤ 60) (hm : m ≤ 60) : nw (2 ^ m * 2 ^ n) ≤ 20 := by
  have h1 := nw_mul (2 ^ m) (2 ^ n)
  have h2 := nw_pow (b := 2) (n := m) (by decide) hm
  have h3 := nw_pow (b := 2) (n := n) (by decide) hn
  omega

/-- What 'Worse' answers. -/
def worseB (n k m j an ad : Int) : Bool := rateB an ad && fairB n k && fairB m j &&
  decide (sumF (wtK n.toNat m.toNat (k.toNat + j.toNat) k.toNat) (n.toNat + 1) * ad.toNat ≤ sumF (wt n.toNat m.toNat (k.toNat + j.toNat)) (n.toNat + 1) * an.toNat)

theorem p25 (n k m j an ad : Int) : PD Try.prog 25 [.int .i64 n, .int .i64 k, .int .i64 m, .int .i64 j, .agg [.int .i64 an, .int .i64 ad]] (.d (.bool (worseB n k m j an ad))) := by
  refine pd_of (fn := Try.f25) [.tmp 10] (by kernel_rfl) rfl (by kernel_rfl) (Nat.le_of_ble_eq_true rfl) (by kernel_rfl) rfl rfl ?_
  refine awp_seq ?_
  refine awpF_region ?_; intro K hK; simp only [push_cast, seval]; (try simp (disch := omega) only [wrapI]); (repeat ((with_reducible refine And.intro ?_ ?_); (focus (first | omega | trivial | assumption | (intro _ hrow; obtain ⟨_, _, rfl⟩ := List.mem_map.1 hrow; rfl) | ((intros; repeat' apply And.intro) <;> first | omega | trivial | assumption | (intro _ hrow; obtain ⟨_, _, rfl⟩ := List.mem_map.1 hrow; rfl) | (simp_all; done) | (simp_all; omega)))))); refine hK _ ?_; clear hK; clear K
  refine awp_seq ?_
  refine awp_seq ?_
  refine awpF_region ?_; intro K hK; simp only [push_cast, seval]
  refine CallK.pd (p17 an ad) ?_
  simp only [push_cast, seval, rate_ne, bif_or]
  refine CallK.pg (fun _ => p51 n k) ?_
  simp only [push_cast, seval, bif_or, Bool.not_not]
  refine ⟨by simp, ?_⟩
  refine CallK.pg (fun _ => p51 m j) ?_
  simp only [push_cast, seval, bif_or, Bool.not_not]
  refine ⟨by simp, ?_⟩
  refine hK _ ?_; clear hK; clear K
  apply awp_cond; (focus (simp only [push_cast, seval]; rfl))
  · intro h1; (try simp only [decide_eq_true_eq, decide_eq_false_iff_not, Bool.not_eq_true', Bool.not_eq_false', Bool.and_eq_true, Bool.or_eq_true, Bool.not_eq_true] at h1)
    refine awp_seq ?_
    refine awpF_region ?_; intro K hK; simp only [push_cast, seval]; (try simp (disch := omega) only [wrapI]); (repeat ((with_reducible refine And.intro ?_ ?_); (focus (first | omega | trivial | assumption | (intro _ hrow; obtain ⟨_, _, rfl⟩ := List.mem_map.1 hrow; rfl) | ((intros; repeat' apply And.intro) <;> first | omega | trivial | assumption | (intro _ hrow; obtain ⟨_, _, rfl⟩ := List.mem_map.1 hrow; rfl) | (simp_all; done) | (simp_all; omega)))))); refine hK _ ?_; clear hK; clear K
    refine awp_ret ?_; (repeat (first | refine then_ret ?_ | refine inblock_ret ?_)); refine fin_of (by simp only [push_cast, seval]; first | done | rfl) (by first | trivial | first | omega | trivial | assumption | (intro _ hrow; obtain ⟨_, _, rfl⟩ := List.mem_map.1 hrow; rfl) | ((intros; repeat' apply And.intro) <;> first | omega | trivial | assumption | (intro _ hrow; obtain ⟨_, _, rfl⟩ := List.mem_map.1 hrow; rfl) | (simp_all; done) | (simp_all; omega))) ?_
    have : worseB n k m j an ad = false := by
      unfold worseB
      revert h1
      cases rateB an ad <;> cases fairB n k <;> cases fairB m j <;> simp
    rw [this]
  · intro h1; (try simp only [decide_eq_true_eq, decide_eq_false_iff_not, Bool.not_eq_true', Bool.not_eq_false', Bool.and_eq_true, Bool.or_eq_true, Bool.not_eq_true] at h1)
    simp only [Bool.or_eq_false_iff, Bool.not_eq_false'] at h1
    obtain ⟨⟨ha, hnk⟩, hmj⟩ := h1
    have hres : worseB n k m j an ad = decide (sumF (wtK n.toNat m.toNat (k.toNat + j.toNat) k.toNat) (n.toNat + 1) * ad.toNat ≤ sumF (wt n.toNat m.toNat (k.toNat + j.toNat)) (n.toNat + 1) * an.toNat) := by
      unfold worseB; rw [ha, hnk, hmj]; rfl
    rw [hres]
    obtain ⟨b1, b2, b3⟩ := fairB_iff.1 hnk
    obtain ⟨c1, c2, c3⟩ := fairB_iff.1 hmj
    obtain ⟨n, rfl⟩ : ∃ x : Nat, n = x := ⟨n.toNat, by omega⟩
    obtain ⟨k, rfl⟩ : ∃ x : Nat, k = x := ⟨k.toNat, by omega⟩
    obtain ⟨m, rfl⟩ : ∃ x : Nat, m = x := ⟨m.toNat, by omega⟩
    obtain ⟨j, rfl⟩ : ∃ x : Nat, j = x := ⟨j.toNat, by omega⟩
    simp only [Int.toNat_natCast]
    clear hres hnk hmj
    have h65a := p65 n 1 2 (by omega) (by decide) (by decide)
    have h65b := p65 m 1 2 (by omega) (by decide) (by decide)
    have h64 := p64 (sumF (wtK n m (k + j) k) (n + 1)) (sumF (wt n m (k + j)) (n + 1)) an ad ha (Nat.le_trans (nw_mono (sum_wtK_le _ _ _ _ _)) (Nat.le_trans (nw_two (by omega) (by omega)) (by decide))) (Nat.le_trans (nw_mono (sum_wt_le _ _ _ _)) (Nat.le_trans (nw_two (by omega) (by omega)) (by decide)))
    rw [show (((1 : Nat) : Int)) = 1 from rfl, show (((2 : Nat) : Int)) = 2 from rfl, show 2 - 1 = 1 from rfl] at h65a h65b
    refine awp_skip ?_
    refine awp_seq ?_
    refine awpF_region ?_; intro K hK; simp only [push_cast, seval]; (try simp (disch := omega) only [wrapI]); (repeat ((with_reducible refine And.intro ?_ ?_); (focus (first | omega | trivial | assumption | (intro _ hrow; obtain ⟨_, _, rfl⟩ := List.mem_map.1 hrow; rfl) | ((intros; repeat' apply And.intro) <;> first | omega | trivial | assumption | (intro _ hrow; obtain ⟨_, _, rfl⟩ := List.mem_map.1 hrow; rfl) | (simp_all; done) | (simp_all; omega)))))); refine hK _ ?_; clear hK; clear K
    refine awp_seq ?_
    refine awpF_draw [0,1,3,4,2,5,6,7] (by kernel_rfl) (by kernel_rfl) rfl ?_; intro K hK; simp only [push_cast, seval]
    refine CallK.pd (h65a) ?_; simp only [push_cast, seval]; (try simp (disch := omega) only [wrapI]); (repeat ((with_reducible refine And.intro ?_ ?_); (focus (first | omega | trivial | assumption | (intro _ hrow; obtain ⟨_, _, rfl⟩ := List.mem_map.1 hrow; rfl) | ((intros; repeat' apply And.intro) <;> first | omega | trivial | assumption | (intro _ hrow; obtain ⟨_, _, rfl⟩ := List.mem_map.1 hrow; rfl) | (simp_all; done) | (simp_all; omega))))))
    refine CallK.pd (h65b) ?_; simp only [push_cast, seval]; (try simp (disch := omega) only [wrapI]); (repeat ((with_reducible refine And.intro ?_ ?_); (focus (first | omega | trivial | assumption | (intro _ hrow; obtain ⟨_, _, rfl⟩ := List.mem_map.1 hrow; rfl) | ((intros; repeat' apply And.intro) <;> first | omega | trivial | assumption | (intro _ hrow; obtain ⟨_, _, rfl⟩ := List.mem_map.1 hrow; rfl) | (simp_all; done) | (simp_all; omega))))))
    refine hK _ ?_; clear hK; clear K
    refine awp_seq ?_
    refine awpF_region ?_; intro K hK; simp only [push_cast, seval]; (try simp (disch := omega) only [wrapI]); (repeat ((with_reducible refine And.intro ?_ ?_); (focus (first | omega | trivial | assumption | (intro _ hrow; obtain ⟨_, _, rfl⟩ := List.mem_map.1 hrow; rfl) | ((intros; repeat' apply And.intro) <;> first | omega | trivial | assumption | (intro _ hrow; obtain ⟨_, _, rfl⟩ := List.mem_map.1 hrow; rfl) | (simp_all; done) | (simp_all; omega)))))); refine hK _ ?_; clear hK; clear K
    refine awp_seq ?_
    refine awp_seq ?_
    refine awpF_region ?_; intro K hK; simp only [push_cast, seval, rowN_len]
    (repeat ((with_reducible refine And.intro ?_ ?_); (focus (first | omega | trivial | assumption | (intro _ hrow; obtain ⟨_, _, rfl⟩ := List.mem_map.1 hrow; rfl) | ((intros; repeat' apply And.intro) <;> first | omega | trivial | assumption | (intro _ hrow; obtain ⟨_, _, rfl⟩ := List.mem_map.1 hrow; rfl) | (simp_all; done) | (simp_all; omega))))))
    refine hK _ ?_; clear hK; clear K
    refine awp_virt 14 1 rfl ?_
    simp only [push_cast, seval]
    refine awp_frz 2 ?_
    simp only [push_cast, seval]
    refine awp_virt 15 1 rfl ?_
    simp only [push_cast, seval]
    refine awp_frz 3 ?_
    simp only [push_cast, seval]
    refine awp_block ?_
    refine awp_loopP (st := fun (i : Nat) => ⟨[(1, .d (.int .i64 k)), (2, .d (.int .i64 m)), (3, .d (.int .i64 j)), (9, .ptr 0 0 0), (13, .d (.sl (rowN (cs 1 1 m) (m + 1)))), (14, .d (Go.Aw.D.sl ((digs B64 (sumF (wtK n m (k + j) k) i)).map encW))), (15, .d (Go.Aw.D.sl ((digs B64 (sumF (wt n m (k + j)) i)).map encW))),
      (42, .d (.sl (rowN (cs 1 1 n) (n + 1)))), (43, .d (.int .i64 ((n : Int) + 1))), (44, .d (.int .i64 i))], [.cells [.d (.int .i64 an), .d (.int .i64 ad)]]⟩) (inv := fun i => i ≤ n + 1) (μ := fun i => n + 1 - i) (x0 := 0) (r0 := [0]) ?_ ?_ ?_
    · exact Nat.zero_le _
    · rw [show sumF (wtK n m (k + j) k) 0 = 0 from rfl, show sumF (wt n m (k + j)) 0 = 0 from rfl, show List.map encW (digs B64 0) = [] by rw [digs_zero]; rfl]
      exact ⟨by simp, by simp, by simp [push_cast, seval], by simp [push_cast, seval], by simp [push_cast, seval], by simp [push_cast, seval]⟩
    intro i hi
    refine awp_seq ?_
    refine awpF_region ?_; intro K hK; simp only [push_cast, seval]; (try simp (disch := omega) only [wrapI]); (repeat ((with_reducible refine And.intro ?_ ?_); (focus (first | omega | trivial | assumption | (intro _ hrow; obtain ⟨_, _, rfl⟩ := List.mem_map.1 hrow; rfl) | ((intros; repeat' apply And.intro) <;> first | omega | trivial | assumption | (intro _ hrow; obtain ⟨_, _, rfl⟩ := List.mem_map.1 hrow; rfl) | (simp_all; done) | (simp_all; omega)))))); refine hK _ ?_; clear hK; clear K
    refine awp_seq ?_
    apply awp_cond; (focus (simp only [push_cast, seval]; rfl))
    · intro h2; (try simp only [decide_eq_true_eq, decide_eq_false_iff_not, Bool.not_eq_true', Bool.not_eq_false', Bool.and_eq_true, Bool.or_eq_true, Bool.not_eq_true] at h2)
      have hlt : i < n + 1 := by omega
      have g1 := rowN_get (cs 1 1 n) hlt
      have hw1 : IntKind.i64.wrap ((k : Int) + j) = (k : Int) + j := wrapI _ (by omega)
      have hw2 : IntKind.i64.wrap ((k : Int) + j - i) = (k : Int) + j - i := wrapI _ (by omega)
      have hwi : IntKind.i64.wrap ((i : Int) + 1) = (i : Int) + 1 := wrapI _ (by omega)
      refine awp_skip ?_
      refine awp_seq ?_
      refine awp_block ?_
      refine awp_seq ?_
      refine awpF_region ?_; intro K hK; simp only [push_cast, seval, rowN_len, g1, Int.toNat_natCast]; (try simp (disch := omega) only [wrapI]); (repeat ((with_reducible refine And.intro ?_ ?_); (focus (first | omega | trivial | assumption | (intro _ hrow; obtain ⟨_, _, rfl⟩ := List.mem_map.1 hrow; rfl) | ((intros; repeat' apply And.intro) <;> first | omega | trivial | assumption | (intro _ hrow; obtain ⟨_, _, rfl⟩ := List.mem_map.1 hrow; rfl) | (simp_all; done) | (simp_all; omega)))))); refine hK _ ?_; clear hK; clear K
      refine awp_seq ?_
      refine awpF_region ?_; intro K hK; simp only [push_cast, seval, hw1, hw2]; (try simp (disch := omega) only [wrapI]); (repeat ((with_reducible refine And.intro ?_ ?_); (focus (first | omega | trivial | assumption | (intro _ hrow; obtain ⟨_, _, rfl⟩ := List.mem_map.1 hrow; rfl) | ((intros; repeat' apply And.intro) <;> first | omega | trivial | assumption | (intro _ hrow; obtain ⟨_, _, rfl⟩ := List.mem_map.1 hrow; rfl) | (simp_all; done) | (simp_all; omega)))))); refine hK _ ?_; clear hK; clear K
      refine awp_seq ?_
      refine awp_seq ?_
      refine awpF_region ?_; intro K hK; simp only [push_cast, seval, bif_or]; (try simp (disch := omega) only [wrapI]); (repeat ((with_reducible refine And.intro ?_ ?_); (focus (first | omega | trivial | assumption | (intro _ hrow; obtain ⟨_, _, rfl⟩ := List.mem_map.1 hrow; rfl) | ((intros; repeat' apply And.intro) <;> first | omega | trivial | assumption | (intro _ hrow; obtain ⟨_, _, rfl⟩ := List.mem_map.1 hrow; rfl) | (simp_all; done) | (simp_all; omega)))))); refine hK _ ?_; clear hK; clear K
      apply awp_cond; (focus (simp only [push_cast, seval]; rfl))
      · intro h3; (try simp only [decide_eq_true_eq, decide_eq_false_iff_not, Bool.not_eq_true', Bool.not_eq_false', Bool.and_eq_true, Bool.or_eq_true, Bool.not_eq_true] at h3)
        have hz : wt n m (k + j) i = 0 := by
          unfold wt
          split
          · rw [cs_big 1 1 m (k + j - i) (by omega), Nat.mul_zero]
          · rfl
        have hzK : wtK n m (k + j) k i = 0 := by unfold wtK; rw [hz]; simp
        refine awp_exit ?_; (repeat (first | refine then_exit ?_ | refine inblock_other (by decide) ?_)); refine inblock_same ?_
        refine awpF_region ?_; intro K hK; simp only [push_cast, seval, hwi]; (try simp (disch := omega) only [wrapI]); (repeat ((with_reducible refine And.intro ?_ ?_); (focus (first | omega | trivial | assumption | (intro _ hrow; obtain ⟨_, _, rfl⟩ := List.mem_map.1 hrow; rfl) | ((intros; repeat' apply And.intro) <;> first | omega | trivial | assumption | (intro _ hrow; obtain ⟨_, _, rfl⟩ := List.mem_map.1 hrow; rfl) | (simp_all; done) | (simp_all; omega)))))); refine hK _ ?_; clear hK; clear K
        refine round_end (y := i + 1) (r := [0]) (by omega) (by omega) ?_
        rw [show sumF (wtK n m (k + j) k) (i + 1) = sumF (wtK n m (k + j) k) i by rw [sumF, hzK]; rfl, show sumF (wt n m (k + j)) (i + 1) = sumF (wt n m (k + j)) i by rw [sumF, hz]; rfl]
        exact ⟨by simp, by simp, by simp [push_cast, seval], by simp [push_cast, seval], by simp [push_cast, seval], by simp [push_cast, seval]⟩
      · intro h3; (try simp only [decide_eq_true_eq, decide_eq_false_iff_not, Bool.not_eq_true', Bool.not_eq_false', Bool.and_eq_true, Bool.or_eq_true, Bool.not_eq_true] at h3)
        simp only [Bool.or_eq_false_iff, decide_eq_false_iff_not] at h3
        obtain ⟨o, ho⟩ : ∃ o : Nat, (k : Int) + j - i = o := ⟨k + j - i, by omega⟩
        have ho2 : k + j - i = o := by omega
        have g2 := rowN_get (cs 1 1 m) (m := m + 1) (j := o) (by omega)
        have hwt : cs 1 1 n i * cs 1 1 m o = wt n m (k + j) i := by unfold wt; rw [if_pos (by omega), ho2]
        have h66 := p66 (cs 1 1 n i) (cs 1 1 m o) (Nat.le_trans (nw_mono (cs_le 1 1 n i)) (Nat.le_trans (nw_pow (by decide) (by omega)) (by decide))) (Nat.le_trans (nw_mono (cs_le 1 1 m o)) (Nat.le_trans (nw_pow (by decide) (by omega)) (by decide)))
        rw [hwt] at h66
        have hfit : ∀ x, x ≤ 2 ^ m * 2 ^ n → nw x ≤ 500000 := fun x hx => Nat.le_trans (nw_mono hx) (Nat.le_trans (nw_two (by omega) (by omega)) (by decide))
        have hsw : sumF (wt n m (k + j)) i + wt n m (k + j) i = sumF (wt n m (k + j)) (i + 1) := rfl
        have hwl : wt n m (k + j) i ≤ 2 ^ m * 2 ^ n := Nat.le_trans (Nat.le_trans (Nat.le_add_left _ _) (Nat.le_of_eq hsw)) (sum_wt_le _ _ _ _)
        have h67 := p67 (sumF (wt n m (k + j)) i) (wt n m (k + j) i) (hfit _ (sum_wt_le _ _ _ _)) (hfit _ hwl)
        rw [hsw] at h67
        have h68 := p67 (sumF (wtK n m (k + j) k) i) (wt n m (k + j) i) (hfit _ (sum_wtK_le _ _ _ _ _)) (hfit _ hwl)
        refine awp_skip ?_
        refine awp_seq ?_
        refine awpF_region ?_; intro K hK; simp only [push_cast, seval, rowN_len, ho, g2, Int.toNat_natCast]
        (repeat ((with_reducible refine And.intro ?_ ?_); (focus (first | omega | trivial | assumption | (intro _ hrow; obtain ⟨_, _, rfl⟩ := List.mem_map.1 hrow; rfl) | ((intros; repeat' apply And.intro) <;> first | omega | trivial | assumption | (intro _ hrow; obtain ⟨_, _, rfl⟩ := List.mem_map.1 hrow; rfl) | (simp_all; done) | (simp_all; omega))))))
        refine CallK.pd (h66) ?_; simp only [push_cast, seval]; (try simp (disch := omega) only [wrapI]); (repeat ((with_reducible refine And.intro ?_ ?_); (focus (first | omega | trivial | assumption | (intro _ hrow; obtain ⟨_, _, rfl⟩ := List.mem_map.1 hrow; rfl) | ((intros; repeat' apply And.intro) <;> first | omega | trivial | assumption | (intro _ hrow; obtain ⟨_, _, rfl⟩ := List.mem_map.1 hrow; rfl) | (simp_all; done) | (simp_all; omega))))))
        refine hK _ ?_; clear hK; clear K
        refine awp_seq ?_
        refine awpF_region ?_; intro K hK; simp only [push_cast, seval]
        refine CallK.pd (h67) ?_; simp only [push_cast, seval]; (try simp (disch := omega) only [wrapI]); (repeat ((with_reducible refine And.intro ?_ ?_); (focus (first | omega | trivial | assumption | (intro _ hrow; obtain ⟨_, _, rfl⟩ := List.mem_map.1 hrow; rfl) | ((intros; repeat' apply And.intro) <;> first | omega | trivial | assumption | (intro _ hrow; obtain ⟨_, _, rfl⟩ := List.mem_map.1 hrow; rfl) | (simp_all; done) | (simp_all; omega))))))
        refine hK _ ?_; clear hK; clear K
        refine awp_seq ?_
        refine awpF_region ?_; intro K hK; simp only [push_cast, seval]; (try simp (disch := omega) only [wrapI]); (repeat ((with_reducible refine And.intro ?_ ?_); (focus (first | omega | trivial | assumption | (intro _ hrow; obtain ⟨_, _, rfl⟩ := List.mem_map.1 hrow; rfl) | ((intros; repeat' apply And.intro) <;> first | omega | trivial | assumption | (intro _ hrow; obtain ⟨_, _, rfl⟩ := List.mem_map.1 hrow; rfl) | (simp_all; done) | (simp_all; omega)))))); refine hK _ ?_; clear hK; clear K
        apply awp_cond; (focus (simp only [push_cast, seval]; rfl))
        · intro h4; (try simp only [decide_eq_true_eq, decide_eq_false_iff_not, Bool.not_eq_true', Bool.not_eq_false', Bool.and_eq_true, Bool.or_eq_true, Bool.not_eq_true] at h4)
          have hp : sumF (wtK n m (k + j) k) (i + 1) = sumF (wtK n m (k + j) k) i + wt n m (k + j) i := by rw [sumF, wtK, if_pos (by omega)]
          rw [← hp] at h68
          refine awpF_region ?_; intro K hK; simp only [push_cast, seval]
          refine CallK.pd (h68) ?_; simp only [push_cast, seval]; (try simp (disch := omega) only [wrapI]); (repeat ((with_reducible refine And.intro ?_ ?_); (focus (first | omega | trivial | assumption | (intro _ hrow; obtain ⟨_, _, rfl⟩ := List.mem_map.1 hrow; rfl) | ((intros; repeat' apply And.intro) <;> first | omega | trivial | assumption | (intro _ hrow; obtain ⟨_, _, rfl⟩ := List.mem_map.1 hrow; rfl) | (simp_all; done) | (simp_all; omega))))))
          refine hK _ ?_; clear hK; clear K
          refine inblock_norm ?_
          refine awpF_region ?_; intro K hK; simp only [push_cast, seval, hwi]; (try simp (disch := omega) only [wrapI]); (repeat ((with_reducible refine And.intro ?_ ?_); (focus (first | omega | trivial | assumption | (intro _ hrow; obtain ⟨_, _, rfl⟩ := List.mem_map.1 hrow; rfl) | ((intros; repeat' apply And.intro) <;> first | omega | trivial | assumption | (intro _ hrow; obtain ⟨_, _, rfl⟩ := List.mem_map.1 hrow; rfl) | (simp_all; done) | (simp_all; omega)))))); refine hK _ ?_; clear hK; clear K
          refine round_end (y := i + 1) (r := [0]) (by omega) (by omega) ?_
          exact ⟨by simp, by simp, by simp [push_cast, seval], by simp [push_cast, seval], by simp [push_cast, seval], by simp [push_cast, seval]⟩
        · intro h4; (try simp only [decide_eq_true_eq, decide_eq_false_iff_not, Bool.not_eq_true', Bool.not_eq_false', Bool.and_eq_true, Bool.or_eq_true, Bool.not_eq_true] at h4)
          have hp : sumF (wtK n m (k + j) k) (i + 1) = sumF (wtK n m (k + j) k) i := by rw [sumF, wtK, if_neg (by omega)]; rfl
          refine awp_skip ?_
          refine inblock_norm ?_
          refine awpF_region ?_; intro K hK; simp only [push_cast, seval, hwi]; (try simp (disch := omega) only [wrapI]); (repeat ((with_reducible refine And.intro ?_ ?_); (focus (first | omega | trivial | assumption | (intro _ hrow; obtain ⟨_, _, rfl⟩ := List.mem_map.1 hrow; rfl) | ((intros; repeat' apply And.intro) <;> first | omega | trivial | assumption | (intro _ hrow; obtain ⟨_, _, rfl⟩ := List.mem_map.1 hrow; rfl) | (simp_all; done) | (simp_all; omega)))))); refine hK _ ?_; clear hK; clear K
          refine round_end (y := i + 1) (r := [0]) (by omega) (by omega) ?_
          rw [hp]
          exact ⟨by simp, by simp, by simp [push_cast, seval], by simp [push_cast, seval], by simp [push_cast, seval], by simp [push_cast, seval]⟩
    · intro h2; (try simp only [decide_eq_true_eq, decide_eq_false_iff_not, Bool.not_eq_true', Bool.not_eq_false', Bool.and_eq_true, Bool.or_eq_true, Bool.not_eq_true] at h2)
      obtain rfl : i = n + 1 := by omega
      refine awp_exit ?_; (repeat (first | refine then_exit ?_ | refine inblock_other (by decide) ?_)); refine inblock_same ?_
      refine awp_seq ?_
      refine awpF_region ?_; intro K hK; simp only [push_cast, seval]
      refine CallK.pd (h64) ?_; simp only [push_cast, seval]; (try simp (disch := omega) only [wrapI]); (repeat ((with_reducible refine And.intro ?_ ?_); (focus (first | omega | trivial | assumption | (intro _ hrow; obtain ⟨_, _, rfl⟩ := List.mem_map.1 hrow; rfl) | ((intros; repeat' apply And.intro) <;> first | omega | trivial | assumption | (intro _ hrow; obtain ⟨_, _, rfl⟩ := List.mem_map.1 hrow; rfl) | (simp_all; done) | (simp_all; omega))))))
      refine hK _ ?_; clear hK; clear K
      refine awp_ret ?_; (repeat (first | refine then_ret ?_ | refine inblock_ret ?_)); refine fin_of (by simp only [push_cast, seval]; first | done | rfl) (by first | trivial | first | omega | trivial | assumption | (intro _ hrow; obtain ⟨_, _, rfl⟩ := List.mem_map.1 hrow; rfl) | ((intros; repeat' apply And.intro) <;> first | omega | trivial | assumption | (intro _ hrow; obtain ⟨_, _, rfl⟩ := List.mem_map.1 hrow; rfl) | (simp_all; done) | (simp_all; omega))) ?_
      rfl
end Go.Aw
