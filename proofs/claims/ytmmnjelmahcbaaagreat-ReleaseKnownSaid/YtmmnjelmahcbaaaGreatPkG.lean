/-
  Texts of the library, one behind the other. Over any program; no condition.
-/
import Derived.Test.YtmmnjelmahcbaaaGreatPkF
import Derived.Test.YtmmnjelmahcbaaaGreatPkE
namespace Go.Aw
set_option linter.unusedSimpArgs false
set_option linter.unusedVariables false
open Go.RowKit Go.Proofs Go.Nt Go.Rl

/-- The first n from here on that the test takes; 0 if there is none up to 60. -/
def needF (h : Int → Bool) : Nat → Int → Int
  | 0, _ => 0
  | f + 1, n => if h n then n else needF h f (n + 1)
def need (h : Int → Bool) (n : Int) : Int := needF h (61 - n).toNat n
theorem need_step {h : Int → Bool} {n : Int} (hn : n ≤ 60) : need h n = if h n then n else need h (n + 1) := by
  unfold need
  rw [show (61 - n).toNat = (61 - (n + 1)).toNat + 1 by omega]
  rfl
theorem need_end {h : Int → Bool} {n : Int} (hn : 60 < n) : need h n = 0 := by
  unfold need
  rw [show (61 - n).toNat = 0 by omega]
  rfl
def neededI (k rn rd an ad : Int) : Int := if 0 ≤ k then need (fun n => holdsB n k rn rd an ad) k else 0

theorem p31 (k rn rd an ad : Int) : PD Tryz.prog 28 [.int .i64 k, .agg [.int .i64 rn, .int .i64 rd], .agg [.int .i64 an, .int .i64 ad]] (.d (.int .i64 (neededI k rn rd an ad))) := by
  refine pd_of (fn := Tryz.f28) [.tmp 6] (by kernel_rfl) rfl (by kernel_rfl) (Nat.le_of_ble_eq_true rfl) (by kernel_rfl) rfl rfl ?_
  refine awp_seq ?_
  refine awpF_region ?_; intro K hK; simp only [push_cast, seval]; (try simp (disch := omega) only [wrapI]); (repeat ((with_reducible refine And.intro ?_ ?_); (focus (exact ob1)))); refine hK _ ?_; clear hK; clear K
  refine awp_seq ?_
  refine awp_seq ?_
  refine awpF_region ?_; intro K hK; simp only [push_cast, seval]; (try simp (disch := omega) only [wrapI]); (repeat ((with_reducible refine And.intro ?_ ?_); (focus (exact ob1)))); refine hK _ ?_; clear hK; clear K
  refine awp_block ?_
  refine awp_loopP (st := fun (n : Int) => ⟨[(0, .d (.int .i64 k)), (4, .ptr 0 0 0), (5, .ptr 1 0 0), (7, .d (.int .i64 n))], [.cells [.d (.int .i64 rn), .d (.int .i64 rd)], .cells [.d (.int .i64 an), .d (.int .i64 ad)]]⟩)
    (inv := fun n => 0 ≤ n ∧ (0 ≤ k → need (fun n => holdsB n k rn rd an ad) n = neededI k rn rd an ad)) (μ := fun n => (61 - n).toNat) (x0 := max k 0) (r0 := [0, 1]) ?_ ?_ ?_
  · refine ⟨by omega, fun h => ?_⟩
    rw [neededI, if_pos h, show max k 0 = k by omega]
  · exact ⟨by simp, by simp, by simp [push_cast, seval], by simp [push_cast, seval], by simp [push_cast, seval], by simp [push_cast, seval]⟩
  rintro n ⟨hn, hv⟩
  refine awp_seq ?_
  refine awp_seq ?_
  refine awpF_region ?_; intro K hK; simp only [push_cast, seval]; (try simp (disch := omega) only [wrapI]); (repeat ((with_reducible refine And.intro ?_ ?_); (focus (exact ob1)))); refine hK _ ?_; clear hK; clear K
  apply awp_cond; (focus (simp only [push_cast, seval]; rfl))
  · intro h1; (try simp only [decide_eq_true_eq, decide_eq_false_iff_not, Bool.not_eq_true', Bool.not_eq_false', Bool.and_eq_true, Bool.or_eq_true, Bool.not_eq_true] at h1)
    simp only [bif_and, Bool.and_eq_true, decide_eq_true_eq] at h1
    obtain ⟨hk, hn60⟩ := h1
    have h23 := p23 n k rn rd an ad
    have hst := need_step (h := fun n => holdsB n k rn rd an ad) hn60
    rw [hv hk] at hst
    have hw : IntKind.i64.wrap (n + 1) = n + 1 := wrapI _ (by omega)
    refine awp_skip ?_
    refine awp_seq ?_
    refine awp_block ?_
    refine awp_seq ?_
    refine awpF_region ?_; intro K hK; simp only [push_cast, seval]
    refine CallK.pd (h23) ?_; simp only [push_cast, seval]; (try simp (disch := omega) only [wrapI]); (repeat ((with_reducible refine And.intro ?_ ?_); (focus (exact ob1))))
    refine hK _ ?_; clear hK; clear K
    apply awp_cond; (focus (simp only [push_cast, seval]; rfl))
    · intro h2; (try simp only [decide_eq_true_eq, decide_eq_false_iff_not, Bool.not_eq_true', Bool.not_eq_false', Bool.and_eq_true, Bool.or_eq_true, Bool.not_eq_true] at h2)
      refine awp_seq ?_
      refine awpF_region ?_; intro K hK; simp only [push_cast, seval]; (try simp (disch := omega) only [wrapI]); (repeat ((with_reducible refine And.intro ?_ ?_); (focus (exact ob1)))); refine hK _ ?_; clear hK; clear K
      refine awp_ret ?_; (repeat (first | refine then_ret ?_ | refine inblock_ret ?_)); refine fin_of (by simp only [push_cast, seval]; first | done | rfl) ob1 ?_
      rw [if_pos h2] at hst
      rw [hst]
    · intro h2; (try simp only [decide_eq_true_eq, decide_eq_false_iff_not, Bool.not_eq_true', Bool.not_eq_false', Bool.and_eq_true, Bool.or_eq_true, Bool.not_eq_true] at h2)
      refine awp_skip ?_
      refine inblock_norm ?_
      refine awpF_region ?_; intro K hK; simp only [push_cast, seval, hw]; (try simp (disch := omega) only [wrapI]); (repeat ((with_reducible refine And.intro ?_ ?_); (focus (exact ob1)))); refine hK _ ?_; clear hK; clear K
      rw [h2] at hst
      refine round_end (y := n + 1) (r := [0, 1]) (by omega) ⟨by omega, fun _ => by rw [hst]; rfl⟩ ?_
      exact ⟨by simp, by simp, by simp [push_cast, seval], by simp [push_cast, seval], by simp [push_cast, seval], by simp [push_cast, seval]⟩
  · intro h1; (try simp only [decide_eq_true_eq, decide_eq_false_iff_not, Bool.not_eq_true', Bool.not_eq_false', Bool.and_eq_true, Bool.or_eq_true, Bool.not_eq_true] at h1)
    simp only [bif_and, Bool.and_eq_false_iff, decide_eq_false_iff_not] at h1
    refine awp_exit ?_; (repeat (first | refine then_exit ?_ | refine inblock_other (by decide) ?_)); refine inblock_same ?_
    refine awp_seq ?_
    refine awpF_region ?_; intro K hK; simp only [push_cast, seval]; (try simp (disch := omega) only [wrapI]); (repeat ((with_reducible refine And.intro ?_ ?_); (focus (exact ob1)))); refine hK _ ?_; clear hK; clear K
    refine awp_ret ?_; (repeat (first | refine then_ret ?_ | refine inblock_ret ?_)); refine fin_of (by simp only [push_cast, seval]; first | done | rfl) ob1 ?_
    by_cases hk : 0 ≤ k
    · rw [← hv hk, need_end (by omega)]
    · rw [neededI, if_neg hk]

theorem p24 (n d : Int) : PD Tryz.prog 24 [.int .i64 n, .int .i64 d] (.agg [.d (.int .i64 n), .d (.int .i64 d)]) := by
  refine pd_of (fn := Tryz.f24) [.cell 4 44] (by kernel_rfl) rfl (by kernel_rfl) (Nat.le_of_ble_eq_true rfl) (by kernel_rfl) rfl rfl ?_
  refine awp_seq ?_
  refine awpF_region ?_; intro K hK; simp only [push_cast, seval]; (try simp (disch := omega) only [wrapI]); (repeat ((with_reducible refine And.intro ?_ ?_); (focus (exact ob1)))); refine hK _ ?_; clear hK; clear K
  refine awp_seq ?_
  refine awpF_region ?_; intro K hK; simp only [push_cast, seval]; (try simp (disch := omega) only [wrapI]); (repeat ((with_reducible refine And.intro ?_ ?_); (focus (exact ob1)))); refine hK _ ?_; clear hK; clear K
  refine awp_ret ?_; (repeat (first | refine then_ret ?_ | refine inblock_ret ?_)); refine fin_of (by simp only [push_cast, seval]; first | done | rfl) ob1 ?_
  rfl
end Go.Aw

namespace Go.Aw
set_option linter.unusedSimpArgs false
set_option linter.unusedVariables false
open Go.RowKit Go.Proofs Go.Nt Go.Rl

/-- Of both versions' cases with s failures together: those with i failures of the first one. -/
def wt (n m s i : Nat) : Nat := if i ≤ s then cs 1 1 n i * cs 1 1 m (s - i) else 0
def wtK (n m s k i : Nat) : Nat := if k ≤ i then wt n m s i else 0
theorem wt_le (n m s i : Nat) : wt n m s i ≤ 2 ^ m * cs 1 1 n i := by
  unfold wt
  split
  · rw [Nat.mul_comm]; exact Nat.mul_le_mul_right _ (cs_le 1 1 m _)
  · exact Nat.zero_le _
theorem sum_wt_le (n m s t : Nat) : sumF (wt n m s) t ≤ 2 ^ m * 2 ^ n := by
  have h1 : sumF (wt n m s) t ≤ sumF (fun i => 2 ^ m * cs 1 1 n i) t := sumF_le fun i _ => wt_le n m s i
  rw [sumF_mul] at h1
  have h2 := lo_le 1 1 n t
  exact Nat.le_trans h1 (Nat.mul_le_mul_left _ h2)
theorem sum_wtK_le (n m s k t : Nat) : sumF (wtK n m s k) t ≤ 2 ^ m * 2 ^ n := by
  refine Nat.le_trans (sumF_le fun i _ => ?_) (sum_wt_le n m s t)
  unfold wtK
  split
  · exact Nat.le_refl _
  · exact Nat.zero_le _
theorem nw_two {n m : Nat} (hn : n ≤ 60) (hm : m ≤ 60) : nw (2 ^ m * 2 ^ n) ≤ 20 := by
  have h1 := nw_mul (2 ^ m) (2 ^ n)
  have h2 := nw_pow (b := 2) (n := m) (by decide) hm
  have h3 := nw_pow (b := 2) (n := n) (by decide) hn
  omega

/-- What 'Worse' answers. -/
def worseB (n k m j an ad : Int) : Bool := rateB an ad && fairB n k && fairB m j &&
  decide (sumF (wtK n.toNat m.toNat (k.toNat + j.toNat) k.toNat) (n.toNat + 1) * ad.toNat ≤ sumF (wt n.toNat m.toNat (k.toNat + j.toNat)) (n.toNat + 1) * an.toNat)

theorem p25 (n k m j an ad : Int) : PD Tryz.prog 30 [.int .i64 n, .int .i64 k, .int .i64 m, .int .i64 j, .agg [.int .i64 an, .int .i64 ad]] (.d (.bool (worseB n k m j an ad))) := by
  refine pd_of (fn := Tryz.f30) [.tmp 10] (by kernel_rfl) rfl (by kernel_rfl) (Nat.le_of_ble_eq_true rfl) (by kernel_rfl) rfl rfl ?_
  refine awp_seq ?_
  refine awpF_region ?_; intro K hK; simp only [push_cast, seval]; (try simp (disch := omega) only [wrapI]); (repeat ((with_reducible refine And.intro ?_ ?_); (focus (exact ob1)))); refine hK _ ?_; clear hK; clear K
  refine awp_seq ?_
  refine awp_seq ?_
  refine awpF_region ?_; intro K hK; simp only [push_cast, seval]
  refine CallK.pd (p17 an ad) ?_
  simp only [push_cast, seval, rate_ne, bif_or]
  refine CallK.pg (fun _ => p51 n k) ?_
  simp only [push_cast, seval, bif_or, Bool.not_not]
  refine ⟨by simp, ?_⟩
  refine CallK.pg (fun _ => p51 m j) ?_
  simp only [push_cast, seval, bif_or, Bool.not_not]
  refine ⟨by simp, ?_⟩
  refine hK _ ?_; clear hK; clear K
  apply awp_cond; (focus (simp only [push_cast, seval]; rfl))
  · intro h1; (try simp only [decide_eq_true_eq, decide_eq_false_iff_not, Bool.not_eq_true', Bool.not_eq_false', Bool.and_eq_true, Bool.or_eq_true, Bool.not_eq_true] at h1)
    refine awp_seq ?_
    refine awpF_region ?_; intro K hK; simp only [push_cast, seval]; (try simp (disch := omega) only [wrapI]); (repeat ((with_reducible refine And.intro ?_ ?_); (focus (exact ob1)))); refine hK _ ?_; clear hK; clear K
    refine awp_ret ?_; (repeat (first | refine then_ret ?_ | refine inblock_ret ?_)); refine fin_of (by simp only [push_cast, seval]; first | done | rfl) ob1 ?_
    have : worseB n k m j an ad = false := by
      unfold worseB
      revert h1
      cases rateB an ad <;> cases fairB n k <;> cases fairB m j <;> simp
    rw [this]
  · intro h1; (try simp only [decide_eq_true_eq, decide_eq_false_iff_not, Bool.not_eq_true', Bool.not_eq_false', Bool.and_eq_true, Bool.or_eq_true, Bool.not_eq_true] at h1)
    simp only [Bool.or_eq_false_iff, Bool.not_eq_false'] at h1
    obtain ⟨⟨ha, hnk⟩, hmj⟩ := h1
    have hres : worseB n k m j an ad = decide (sumF (wtK n.toNat m.toNat (k.toNat + j.toNat) k.toNat) (n.toNat + 1) * ad.toNat ≤ sumF (wt n.toNat m.toNat (k.toNat + j.toNat)) (n.toNat + 1) * an.toNat) := by
      unfold worseB; rw [ha, hnk, hmj]; rfl
    rw [hres]
    obtain ⟨b1, b2, b3⟩ := fairB_iff.1 hnk
    obtain ⟨c1, c2, c3⟩ := fairB_iff.1 hmj
    obtain ⟨n, rfl⟩ : ∃ x : Nat, n = x := ⟨n.toNat, by omega⟩
    obtain ⟨k, rfl⟩ : ∃ x : Nat, k = x := ⟨k.toNat, by omega⟩
    obtain ⟨m, rfl⟩ : ∃ x : Nat, m = x := ⟨m.toNat, by omega⟩
    obtain ⟨j, rfl⟩ : ∃ x : Nat, j = x := ⟨j.toNat, by omega⟩
    simp only [Int.toNat_natCast]
    clear hres hnk hmj
    have h65a := p65 n 1 2 (by omega) (by decide) (by decide)
    have h65b := p65 m 1 2 (by omega) (by decide) (by decide)
    have h64 := p64 (sumF (wtK n m (k + j) k) (n + 1)) (sumF (wt n m (k + j)) (n + 1)) an ad ha (Nat.le_trans (nw_mono (sum_wtK_le _ _ _ _ _)) (Nat.le_trans (nw_two (by omega) (by omega)) (by decide))) (Nat.le_trans (nw_mono (sum_wt_le _ _ _ _)) (Nat.le_trans (nw_two (by omega) (by omega)) (by decide)))
    rw [show (((1 : Nat) : Int)) = 1 from rfl, show (((2 : Nat) : Int)) = 2 from rfl, show 2 - 1 = 1 from rfl] at h65a h65b
    refine awp_skip ?_
    refine awp_seq ?_
    refine awpF_region ?_; intro K hK; simp only [push_cast, seval]; (try simp (disch := omega) only [wrapI]); (repeat ((with_reducible refine And.intro ?_ ?_); (focus (exact ob1)))); refine hK _ ?_; clear hK; clear K
    refine awp_seq ?_
    refine awpF_draw [0,1,3,4,2,5,6,7] (by kernel_rfl) (by kernel_rfl) rfl ?_; intro K hK; simp only [push_cast, seval]
    refine CallK.pd (h65a) ?_; simp only [push_cast, seval]; (try simp (disch := omega) only [wrapI]); (repeat ((with_reducible refine And.intro ?_ ?_); (focus (exact ob1))))
    refine CallK.pd (h65b) ?_; simp only [push_cast, seval]; (try simp (disch := omega) only [wrapI]); (repeat ((with_reducible refine And.intro ?_ ?_); (focus (exact ob1))))
    refine hK _ ?_; clear hK; clear K
    refine awp_seq ?_
    refine awpF_region ?_; intro K hK; simp only [push_cast, seval]; (try simp (disch := omega) only [wrapI]); (repeat ((with_reducible refine And.intro ?_ ?_); (focus (exact ob1)))); refine hK _ ?_; clear hK; clear K
    refine awp_seq ?_
    refine awp_seq ?_
    refine awpF_region ?_; intro K hK; simp only [push_cast, seval, rowN_len]
    (repeat ((with_reducible refine And.intro ?_ ?_); (focus (exact ob1))))
    refine hK _ ?_; clear hK; clear K
    refine awp_virt 14 1 rfl ?_
    simp only [push_cast, seval]
    refine awp_frz 2 ?_
    simp only [push_cast, seval]
    refine awp_virt 15 1 rfl ?_
    simp only [push_cast, seval]
    refine awp_frz 3 ?_
    simp only [push_cast, seval]
    refine awp_block ?_
    refine awp_loopP (st := fun (i : Nat) => ⟨[(1, .d (.int .i64 k)), (2, .d (.int .i64 m)), (3, .d (.int .i64 j)), (9, .ptr 0 0 0), (13, .d (.sl (rowN (cs 1 1 m) (m + 1)))), (14, .d (Go.Aw.D.sl ((digs B64 (sumF (wtK n m (k + j) k) i)).map encW))), (15, .d (Go.Aw.D.sl ((digs B64 (sumF (wt n m (k + j)) i)).map encW))),
      (42, .d (.sl (rowN (cs 1 1 n) (n + 1)))), (43, .d (.int .i64 ((n : Int) + 1))), (44, .d (.int .i64 i))], [.cells [.d (.int .i64 an), .d (.int .i64 ad)]]⟩) (inv := fun i => i ≤ n + 1) (μ := fun i => n + 1 - i) (x0 := 0) (r0 := [0]) ?_ ?_ ?_
    · exact Nat.zero_le _
    · rw [show sumF (wtK n m (k + j) k) 0 = 0 from rfl, show sumF (wt n m (k + j)) 0 = 0 from rfl, show List.map encW (digs B64 0) = [] by rw [digs_zero]; rfl]
      exact ⟨by simp, by simp, by simp [push_cast, seval], by simp [push_cast, seval], by simp [push_cast, seval], by simp [push_cast, seval]⟩
    intro i hi
    refine awp_seq ?_
    refine awpF_region ?_; intro K hK; simp only [push_cast, seval]; (try simp (disch := omega) only [wrapI]); (repeat ((with_reducible refine And.intro ?_ ?_); (focus (exact ob1)))); refine hK _ ?_; clear hK; clear K
    refine awp_seq ?_
    apply awp_cond; (focus (simp only [push_cast, seval]; rfl))
    · intro h2; (try simp only [decide_eq_true_eq, decide_eq_false_iff_not, Bool.not_eq_true', Bool.not_eq_false', Bool.and_eq_true, Bool.or_eq_true, Bool.not_eq_true] at h2)
      have hlt : i < n + 1 := by omega
      have g1 := rowN_get (cs 1 1 n) hlt
      have hw1 : IntKind.i64.wrap ((k : Int) + j) = (k : Int) + j := wrapI _ (by omega)
      have hw2 : IntKind.i64.wrap ((k : Int) + j - i) = (k : Int) + j - i := wrapI _ (by omega)
      have hwi : IntKind.i64.wrap ((i : Int) + 1) = (i : Int) + 1 := wrapI _ (by omega)
      refine awp_skip ?_
      refine awp_seq ?_
      refine awp_block ?_
      refine awp_seq ?_
      refine awpF_region ?_; intro K hK; simp only [push_cast, seval, rowN_len, g1, Int.toNat_natCast]; (try simp (disch := omega) only [wrapI]); (repeat ((with_reducible refine And.intro ?_ ?_); (focus (exact ob1)))); refine hK _ ?_; clear hK; clear K
      refine awp_seq ?_
      refine awpF_region ?_; intro K hK; simp only [push_cast, seval, hw1, hw2]; (try simp (disch := omega) only [wrapI]); (repeat ((with_reducible refine And.intro ?_ ?_); (focus (exact ob1)))); refine hK _ ?_; clear hK; clear K
      refine awp_seq ?_
      refine awp_seq ?_
      refine awpF_region ?_; intro K hK; simp only [push_cast, seval, bif_or]; (try simp (disch := omega) only [wrapI]); (repeat ((with_reducible refine And.intro ?_ ?_); (focus (exact ob1)))); refine hK _ ?_; clear hK; clear K
      apply awp_cond; (focus (simp only [push_cast, seval]; rfl))
      · intro h3; (try simp only [decide_eq_true_eq, decide_eq_false_iff_not, Bool.not_eq_true', Bool.not_eq_false', Bool.and_eq_true, Bool.or_eq_true, Bool.not_eq_true] at h3)
        have hz : wt n m (k + j) i = 0 := by
          unfold wt
          split
          · rw [cs_big 1 1 m (k + j - i) (by omega), Nat.mul_zero]
          · rfl
        have hzK : wtK n m (k + j) k i = 0 := by unfold wtK; rw [hz]; simp
        refine awp_exit ?_; (repeat (first | refine then_exit ?_ | refine inblock_other (by decide) ?_)); refine inblock_same ?_
        refine awpF_region ?_; intro K hK; simp only [push_cast, seval, hwi]; (try simp (disch := omega) only [wrapI]); (repeat ((with_reducible refine And.intro ?_ ?_); (focus (exact ob1)))); refine hK _ ?_; clear hK; clear K
        refine round_end (y := i + 1) (r := [0]) (by omega) (by omega) ?_
        rw [show sumF (wtK n m (k + j) k) (i + 1) = sumF (wtK n m (k + j) k) i by rw [sumF, hzK]; rfl, show sumF (wt n m (k + j)) (i + 1) = sumF (wt n m (k + j)) i by rw [sumF, hz]; rfl]
        exact ⟨by simp, by simp, by simp [push_cast, seval], by simp [push_cast, seval], by simp [push_cast, seval], by simp [push_cast, seval]⟩
      · intro h3; (try simp only [decide_eq_true_eq, decide_eq_false_iff_not, Bool.not_eq_true', Bool.not_eq_false', Bool.and_eq_true, Bool.or_eq_true, Bool.not_eq_true] at h3)
        simp only [Bool.or_eq_false_iff, decide_eq_false_iff_not] at h3
        obtain ⟨o, ho⟩ : ∃ o : Nat, (k : Int) + j - i = o := ⟨k + j - i, by omega⟩
        have ho2 : k + j - i = o := by omega
        have g2 := rowN_get (cs 1 1 m) (m := m + 1) (j := o) (by omega)
        have hwt : cs 1 1 n i * cs 1 1 m o = wt n m (k + j) i := by unfold wt; rw [if_pos (by omega), ho2]
        have h66 := p66 (cs 1 1 n i) (cs 1 1 m o) (Nat.le_trans (nw_mono (cs_le 1 1 n i)) (Nat.le_trans (nw_pow (by decide) (by omega)) (by decide))) (Nat.le_trans (nw_mono (cs_le 1 1 m o)) (Nat.le_trans (nw_pow (by decide) (by omega)) (by decide)))
        rw [hwt] at h66
        have hfit : ∀ x, x ≤ 2 ^ m * 2 ^ n → nw x ≤ 500000 := fun x hx => Nat.le_trans (nw_mono hx) (Nat.le_trans (nw_two (by omega) (by omega)) (by decide))
        have hsw : sumF (wt n m (k + j)) i + wt n m (k + j) i = sumF (wt n m (k + j)) (i + 1) := rfl
        have hwl : wt n m (k + j) i ≤ 2 ^ m * 2 ^ n := Nat.le_trans (Nat.le_trans (Nat.le_add_left _ _) (Nat.le_of_eq hsw)) (sum_wt_le _ _ _ _)
        have h67 := p67 (sumF (wt n m (k + j)) i) (wt n m (k + j) i) (hfit _ (sum_wt_le _ _ _ _)) (hfit _ hwl)
        rw [hsw] at h67
        have h68 := p67 (sumF (wtK n m (k + j) k) i) (wt n m (k + j) i) (hfit _ (sum_wtK_le _ _ _ _ _)) (hfit _ hwl)
        refine awp_skip ?_
        refine awp_seq ?_
        refine awpF_region ?_; intro K hK; simp only [push_cast, seval, rowN_len, ho, g2, Int.toNat_natCast]
        (repeat ((with_reducible refine And.intro ?_ ?_); (focus (exact ob1))))
        refine CallK.pd (h66) ?_; simp only [push_cast, seval]; (try simp (disch := omega) only [wrapI]); (repeat ((with_reducible refine And.intro ?_ ?_); (focus (exact ob1))))
        refine hK _ ?_; clear hK; clear K
        refine awp_seq ?_
        refine awpF_region ?_; intro K hK; simp only [push_cast, seval]
        refine CallK.pd (h67) ?_; simp only [push_cast, seval]; (try simp (disch := omega) only [wrapI]); (repeat ((with_reducible refine And.intro ?_ ?_); (focus (exact ob1))))
        refine hK _ ?_; clear hK; clear K
        refine awp_seq ?_
        refine awpF_region ?_; intro K hK; simp only [push_cast, seval]; (try simp (disch := omega) only [wrapI]); (repeat ((with_reducible refine And.intro ?_ ?_); (focus (exact ob1)))); refine hK _ ?_; clear hK; clear K
        apply awp_cond; (focus (simp only [push_cast, seval]; rfl))
        · intro h4; (try simp only [decide_eq_true_eq, decide_eq_false_iff_not, Bool.not_eq_true', Bool.not_eq_false', Bool.and_eq_true, Bool.or_eq_true, Bool.not_eq_true] at h4)
          have hp : sumF (wtK n m (k + j) k) (i + 1) = sumF (wtK n m (k + j) k) i + wt n m (k + j) i := by rw [sumF, wtK, if_pos (by omega)]
          rw [← hp] at h68
          refine awpF_region ?_; intro K hK; simp only [push_cast, seval]
          refine CallK.pd (h68) ?_; simp only [push_cast, seval]; (try simp (disch := omega) only [wrapI]); (repeat ((with_reducible refine And.intro ?_ ?_); (focus (exact ob1))))
          refine hK _ ?_; clear hK; clear K
          refine inblock_norm ?_
          refine awpF_region ?_; intro K hK; simp only [push_cast, seval, hwi]; (try simp (disch := omega) only [wrapI]); (repeat ((with_reducible refine And.intro ?_ ?_); (focus (exact ob1)))); refine hK _ ?_; clear hK; clear K
          refine round_end (y := i + 1) (r := [0]) (by omega) (by omega) ?_
          exact ⟨by simp, by simp, by simp [push_cast, seval], by simp [push_cast, seval], by simp [push_cast, seval], by simp [push_cast, seval]⟩
        · intro h4; (try simp only [decide_eq_true_eq, decide_eq_false_iff_not, Bool.not_eq_true', Bool.not_eq_false', Bool.and_eq_true, Bool.or_eq_true, Bool.not_eq_true] at h4)
          have hp : sumF (wtK n m (k + j) k) (i + 1) = sumF (wtK n m (k + j) k) i := by rw [sumF, wtK, if_neg (by omega)]; rfl
          refine awp_skip ?_
          refine inblock_norm ?_
          refine awpF_region ?_; intro K hK; simp only [push_cast, seval, hwi]; (try simp (disch := omega) only [wrapI]); (repeat ((with_reducible refine And.intro ?_ ?_); (focus (exact ob1)))); refine hK _ ?_; clear hK; clear K
          refine round_end (y := i + 1) (r := [0]) (by omega) (by omega) ?_
          rw [hp]
          exact ⟨by simp, by simp, by simp [push_cast, seval], by simp [push_cast, seval], by simp [push_cast, seval], by simp [push_cast, seval]⟩
    · intro h2; (try simp only [decide_eq_true_eq, decide_eq_false_iff_not, Bool.not_eq_true', Bool.not_eq_false', Bool.and_eq_true, Bool.or_eq_true, Bool.not_eq_true] at h2)
      obtain rfl : i = n + 1 := by omega
      refine awp_exit ?_; (repeat (first | refine then_exit ?_ | refine inblock_other (by decide) ?_)); refine inblock_same ?_
      refine awp_seq ?_
      refine awpF_region ?_; intro K hK; simp only [push_cast, seval]
      refine CallK.pd (h64) ?_; simp only [push_cast, seval]; (try simp (disch := omega) only [wrapI]); (repeat ((with_reducible refine And.intro ?_ ?_); (focus (exact ob1))))
      refine hK _ ?_; clear hK; clear K
      refine awp_ret ?_; (repeat (first | refine then_ret ?_ | refine inblock_ret ?_)); refine fin_of (by simp only [push_cast, seval]; first | done | rfl) ob1 ?_
      rfl
end Go.Aw

namespace Go.Aw
set_option linter.unusedSimpArgs false
set_option linter.unusedVariables false
open Go.RowKit Go.Proofs Go.Nt Go.Rl

def encB (x : Nat) : List D := [.int .u8 ((48 + x : Nat) : Int)]
/-- The text of digits. -/
def digT (ds : List Nat) : ByteArray := ⟨((digB ds).map UInt8.ofNat).toArray⟩
def digOk (n k rn rd d : Int) : Bool := rateB rn rd && fairB n k && decide (1 ≤ d ∧ d ≤ 40)
def digS (n k rn rd d : Int) : ByteArray := digT (dig (rd.toNat ^ n.toNat) (d.toNat + 1) (lo rn.toNat (rd - rn).toNat n.toNat (k.toNat + 1)))

theorem digT_eq (x : Nat) (l : List Nat) : bytesOf ([x].map encB) ++ (⟨#[46]⟩ : ByteArray) ++ bytesOf (l.map encB) = digT (x :: l) := by
  apply ByteArray.ext
  simp only [ByteArray.data_append, bytesOf, strOfNums, digT, digB, List.map_map, List.map_cons, List.map_nil]
  apply Array.ext'
  simp [encB, byteN, Function.comp_def]
  have key : ∀ a : Nat, UInt8.ofNat ((48 : Int) + a).toNat = 48 + UInt8.ofNat a := fun a => by
    rw [show ((48 : Int) + a).toNat = 48 + a by omega, UInt8.ofNat_add]; rfl
  exact ⟨key x, fun a _ => key a⟩

theorem p15 (n k rn rd d : Int) : PD Tryz.prog 25 [.int .i64 n, .int .i64 k, .agg [.int .i64 rn, .int .i64 rd], .int .i64 d] (.tup [.d (.str (if digOk n k rn rd d then digS n k rn rd d else ⟨#[]⟩)), .d (.int .i64 (if digOk n k rn rd d then 0 else 2))]) := by
  refine pd_of (fn := Tryz.f25) [.tmp 8, .tmp 9] (by kernel_rfl) rfl (by kernel_rfl) (Nat.le_of_ble_eq_true rfl) (by kernel_rfl) rfl rfl ?_
  refine awp_seq ?_
  refine awpF_region ?_; intro K hK; simp only [push_cast, seval]; (try simp (disch := omega) only [wrapI]); (repeat ((with_reducible refine And.intro ?_ ?_); (focus (exact ob1)))); refine hK _ ?_; clear hK; clear K
  refine awp_seq ?_
  refine awp_seq ?_
  refine awpF_region ?_; intro K hK; simp only [push_cast, seval]
  refine CallK.pd (p17 rn rd) ?_
  simp only [push_cast, seval, rate_ne, bif_or]
  refine CallK.pg (fun _ => p51 n k) ?_
  simp only [push_cast, seval, bif_or, Bool.not_not]
  refine ⟨by simp, ?_⟩
  (repeat ((with_reducible refine And.intro ?_ ?_); (focus (exact ob1))))
  refine hK _ ?_; clear hK; clear K
  apply awp_cond; (focus (simp only [push_cast, seval]; rfl))
  · intro h1; (try simp only [decide_eq_true_eq, decide_eq_false_iff_not, Bool.not_eq_true', Bool.not_eq_false', Bool.and_eq_true, Bool.or_eq_true, Bool.not_eq_true] at h1)
    refine awp_seq ?_
    refine awpF_region ?_; intro K hK; simp only [push_cast, seval]; (try simp (disch := omega) only [wrapI]); (repeat ((with_reducible refine And.intro ?_ ?_); (focus (exact ob1)))); refine hK _ ?_; clear hK; clear K
    refine awp_ret ?_; (repeat (first | refine then_ret ?_ | refine inblock_ret ?_)); refine fin_of (by simp only [push_cast, seval]; first | done | rfl) ob1 ?_
    have : digOk n k rn rd d = false := by
      unfold digOk
      rcases h1 with ((h1 | h1) | h1) | h1
      · rw [h1]; rfl
      · rw [h1]; simp
      · rw [decide_eq_false (by omega)]; simp
      · rw [decide_eq_false (by omega)]; simp
    rw [this]
    rfl
  · intro h1; (try simp only [decide_eq_true_eq, decide_eq_false_iff_not, Bool.not_eq_true', Bool.not_eq_false', Bool.and_eq_true, Bool.or_eq_true, Bool.not_eq_true] at h1)
    simp only [Bool.or_eq_false_iff, Bool.not_eq_false', decide_eq_false_iff_not] at h1
    obtain ⟨⟨⟨hr, hnk⟩, hd1⟩, hd2⟩ := h1
    have hok : digOk n k rn rd d = true := by unfold digOk; rw [hr, hnk, decide_eq_true (by omega)]; rfl
    rw [hok]
    have h52 := p52l n k rn rd hr hnk
    have h53 := p53i n k rn rd hr hnk
    unfold digS
    obtain ⟨a1, a2, a3, a4⟩ := rateB_iff.1 hr
    obtain ⟨b1, b2, b3⟩ := fairB_iff.1 hnk
    have hle : lo rn.toNat (rd - rn).toNat n.toNat (k.toNat + 1) ≤ rd.toNat ^ n.toNat := by
      have := lo_le rn.toNat (rd - rn).toNat n.toNat (k.toNat + 1)
      rwa [show rn.toNat + (rd - rn).toNat = rd.toNat by omega] at this
    have hwn : nw (rd.toNat ^ n.toNat) ≤ 10 := nw_pow (by omega) (by omega)
    have hwp : 0 < rd.toNat ^ n.toNat := Nat.pow_pos (by omega)
    generalize lo rn.toNat (rd - rn).toNat n.toNat (k.toNat + 1) = rest0 at h52 hle ⊢
    generalize rd.toNat ^ n.toNat = w at h53 hle hwn hwp ⊢
    obtain ⟨d, rfl⟩ : ∃ x : Nat, d = x := ⟨d.toNat, by omega⟩
    have hwd : IntKind.i64.wrap ((d : Int) + 1) = (d : Int) + 1 := wrapI _ (by omega)
    rw [Int.toNat_natCast]
    clear hok hr hnk
    refine awp_skip ?_
    refine awp_seq ?_
    refine awpF_draw [0,1,2,4,5,6,3,7,8,9] (by kernel_rfl) (by kernel_rfl) rfl ?_; intro K hK; simp only [push_cast, seval]
    refine CallK.pd (h52) ?_; simp only [push_cast, seval]; (try simp (disch := omega) only [wrapI]); (repeat ((with_reducible refine And.intro ?_ ?_); (focus (exact ob1))))
    refine CallK.pd (h53) ?_; simp only [push_cast, seval]; (try simp (disch := omega) only [wrapI]); (repeat ((with_reducible refine And.intro ?_ ?_); (focus (exact ob1))))
    refine hK _ ?_; clear hK; clear K
    refine awp_seq ?_
    refine awpF_region ?_; intro K hK; simp only [push_cast, seval]; (try simp (disch := omega) only [wrapI]); (repeat ((with_reducible refine And.intro ?_ ?_); (focus (exact ob1)))); refine hK _ ?_; clear hK; clear K
    refine awp_seq ?_
    refine awp_seq ?_
    refine awpF_region ?_; intro K hK; simp only [push_cast, seval, hwd]; (try simp (disch := omega) only [wrapI]); (repeat ((with_reducible refine And.intro ?_ ?_); (focus (exact ob1)))); refine hK _ ?_; clear hK; clear K
    refine awp_virt 12 1 rfl ?_
    simp only [push_cast, seval]
    refine awp_block ?_
    refine awp_loopP (st := fun (p : Nat × Nat × List Nat) => ⟨[(10, .d (Go.Aw.D.sl ((digs B64 (p.2.1)).map encW))), (11, .d (Go.Aw.D.sl ((digs B64 (w)).map encW))), (12, .ref 0 0 p.1), (40, .d (.int .i64 ((d : Int) + 1))), (41, .d (.int .i64 p.1))], [.data 1 (p.2.2.map encB)]⟩)
      (inv := fun p => p.1 ≤ d + 1 ∧ p.2.1 < 10 * w ∧ p.2.2.length = p.1 ∧ p.2.2 ++ dig w (d + 1 - p.1) p.2.1 = dig w (d + 1) rest0) (μ := fun p => d + 1 - p.1) (x0 := (0, rest0, [])) (r0 := [1]) ?_ ?_ ?_
    · exact ⟨Nat.zero_le _, by dsimp only; omega, rfl, rfl⟩
    · exact ⟨by simp, by simp, by simp [push_cast, seval], by simp [push_cast, seval], by simp [push_cast, seval], by simp [push_cast, seval]⟩
    rintro ⟨i, rest, ds⟩ ⟨hi, hrest, hds, hdig⟩
    dsimp only at hi hrest hds hdig
    refine awp_seq ?_
    refine awpF_region ?_; intro K hK; simp only [push_cast, seval]; (try simp (disch := omega) only [wrapI]); (repeat ((with_reducible refine And.intro ?_ ?_); (focus (exact ob1)))); refine hK _ ?_; clear hK; clear K
    refine awp_seq ?_
    apply awp_cond; (focus (simp only [push_cast, seval]; rfl))
    · intro h2; (try simp only [decide_eq_true_eq, decide_eq_false_iff_not, Bool.not_eq_true', Bool.not_eq_false', Bool.and_eq_true, Bool.or_eq_true, Bool.not_eq_true] at h2)
      have hlt : i < d + 1 := by omega
      refine awp_skip ?_
      refine awp_seq ?_
      refine awp_block ?_
      refine awp_seq ?_
      refine awpF_region ?_; intro K hK; simp only [push_cast, seval]; (try simp (disch := omega) only [wrapI]); (repeat ((with_reducible refine And.intro ?_ ?_); (focus (exact ob1)))); refine hK _ ?_; clear hK; clear K
      refine awp_seq ?_
      refine awp_block ?_
      have hq : rest / w < 10 := (Nat.div_lt_iff_lt_mul hwp).2 hrest
      have hstep : dig w (d + 1 - i) rest = rest / w :: dig w (d + 1 - (i + 1)) (rest % w * 10) := by
        rw [show d + 1 - i = d + 1 - (i + 1) + 1 by omega]; rfl
      have nwr : ∀ x, x ≤ rest → nw x ≤ 11 := fun x hx => by
        have h1 := nw_mono (show x ≤ 10 * w by omega)
        have h2 := nw_mul 10 w
        have h3 : nw 10 ≤ 1 := digs_len (by decide) 1 10 (by decide)
        omega
      refine awp_loopP (st := fun (q : Nat) => ⟨[(10, .d (Go.Aw.D.sl ((digs B64 (rest - q * w)).map encW))), (11, .d (Go.Aw.D.sl ((digs B64 (w)).map encW))), (12, .ref 0 0 i), (13, .d (.int .u8 ((48 + q : Nat) : Int))), (40, .d (.int .i64 ((d : Int) + 1))), (41, .d (.int .i64 i))], [.data 1 (ds.map encB)]⟩)
        (inv := fun q => q ≤ rest / w) (μ := fun q => rest / w - q) (x0 := 0) (r0 := [0]) ?_ ?_ ?_
      · exact Nat.zero_le _
      · rw [Nat.zero_mul, Nat.sub_zero]; exact ⟨by simp, by simp, by simp [push_cast, seval], by simp [push_cast, seval], by simp [push_cast, seval], by simp [push_cast, seval]⟩
      intro q hqr
      have hqm : q * w ≤ rest := Nat.le_trans (Nat.mul_le_mul_right w hqr) (Nat.div_mul_le_self rest w)
      have h54 := p54 (rest - q * w) w (Nat.le_trans (nwr _ (Nat.sub_le _ _)) (by decide)) (Nat.le_trans hwn (by decide))
      refine awp_seq ?_
      refine awp_seq ?_
      refine awpF_region ?_; intro K hK; simp only [push_cast, seval]
      refine CallK.rel h54 ?_
      intro x' H' hR
      obtain ⟨c, hx', hH', hc1, hc2⟩ := hR
      subst hx'
      subst hH'
      simp only [push_cast, seval]
      refine hK _ ?_; clear hK; clear K
      apply awp_cond; (focus (simp only [push_cast, seval]; rfl))
      · intro h3; (try simp only [decide_eq_true_eq, decide_eq_false_iff_not, Bool.not_eq_true', Bool.not_eq_false', Bool.and_eq_true, Bool.or_eq_true, Bool.not_eq_true] at h3)
        have hge : w ≤ rest - q * w := by omega
        have hqs : (q + 1) * w ≤ rest := by rw [Nat.succ_mul]; omega
        have hq1 : q + 1 ≤ rest / w := (Nat.le_div_iff_mul_le hwp).2 hqs
        have h55 := p55 (rest - q * w) w (Nat.le_trans (nwr _ (Nat.sub_le _ _)) (by decide)) hge
        rw [show rest - q * w - w = rest - (q + 1) * w by rw [Nat.succ_mul]; omega] at h55
        have hwq : IntKind.u8.wrap ((48 : Int) + q + 1) = (48 : Int) + (q + 1) := by rw [IntKind.wrap_u8]; omega
        refine awp_skip ?_
        refine awp_block ?_
        refine awp_seq ?_
        refine awpF_region ?_; intro K hK; simp only [push_cast, seval]
        refine CallK.pd (h55) ?_; simp only [push_cast, seval]; (try simp (disch := omega) only [wrapI]); (repeat ((with_reducible refine And.intro ?_ ?_); (focus (exact ob1))))
        refine hK _ ?_; clear hK; clear K
        refine awpF_region ?_; intro K hK; simp only [push_cast, seval, hwq]; (try simp (disch := omega) only [wrapI]); (repeat ((with_reducible refine And.intro ?_ ?_); (focus (exact ob1)))); refine hK _ ?_; clear hK; clear K
        refine inblock_norm ?_
        refine round_end (y := q + 1) (r := [0]) (by omega) hq1 ?_
        exact ⟨by simp, by simp, by simp [push_cast, seval], by simp [push_cast, seval], by simp [push_cast, seval], by simp [push_cast, seval]⟩
      · intro h3; (try simp only [decide_eq_true_eq, decide_eq_false_iff_not, Bool.not_eq_true', Bool.not_eq_false', Bool.and_eq_true, Bool.or_eq_true, Bool.not_eq_true] at h3)
        have hlt2 : rest - q * w < w := by omega
        have hqe : q = rest / w := by
          refine Nat.le_antisymm hqr ?_
          have h5 : rest < (q + 1) * w := by rw [Nat.succ_mul]; omega
          have := (Nat.div_lt_iff_lt_mul hwp).2 h5
          omega
        have hmod : rest - q * w = rest % w := by
          have := Nat.div_add_mod rest w
          rw [hqe]
          rw [Nat.mul_comm] at this
          omega
        have h56 := p56 (rest % w) 10 (Nat.le_trans (nwr _ (Nat.mod_le _ _)) (by decide)) (by decide)
        refine awp_exit ?_; (repeat (first | refine then_exit ?_ | refine inblock_other (by decide) ?_)); refine inblock_same ?_
        refine awp_seq ?_
        refine awpF_region ?_; intro K hK; simp only [push_cast, seval]
        refine ⟨fun h => h, by omega, by omega, ?_⟩
        rw [show List.take i (ds.map encB) ++ [[D.int .u8 (48 + (q : Int))]] = (ds ++ [q]).map encB by
          rw [List.take_of_length_le (by simp; omega), List.map_append]; rfl]
        refine hK _ ?_; clear hK; clear K
        rw [hmod]
        refine awpF_region ?_; intro K hK; simp only [push_cast, seval]
        refine CallK.pd (h56) ?_; simp only [push_cast, seval]; (try simp (disch := omega) only [wrapI]); (repeat ((with_reducible refine And.intro ?_ ?_); (focus (exact ob1))))
        refine hK _ ?_; clear hK; clear K
        refine inblock_norm ?_
        refine awpF_region ?_; intro K hK; simp only [push_cast, seval]; (try simp (disch := omega) only [wrapI]); (repeat ((with_reducible refine And.intro ?_ ?_); (focus (exact ob1)))); refine hK _ ?_; clear hK; clear K
        refine round_end (y := (i + 1, rest % w * 10, ds ++ [q])) (r := [0]) (by dsimp only; omega) ⟨by dsimp only; omega, ?_, by simp [hds], ?_⟩ ?_
        · have := Nat.mod_lt rest hwp
          dsimp only; omega
        · rw [← hdig, hstep, hqe, List.append_assoc]; rfl
        · exact ⟨by simp, by simp, by simp [push_cast, seval], by simp [push_cast, seval], by simp [push_cast, seval], by simp [push_cast, seval]⟩
    · intro h2; (try simp only [decide_eq_true_eq, decide_eq_false_iff_not, Bool.not_eq_true', Bool.not_eq_false', Bool.and_eq_true, Bool.or_eq_true, Bool.not_eq_true] at h2)
      obtain rfl : i = d + 1 := by omega
      have hkb : kbyt Tryz.prog 78 = true := by kernel_rfl
      rw [Nat.sub_self] at hdig
      simp only [dig, List.append_nil] at hdig
      obtain ⟨x, l, rfl⟩ : ∃ x l, ds = x :: l := by
        cases ds with
        | nil => simp at hds
        | cons x l => exact ⟨x, l, rfl⟩
      have hb1 : bytesOk ((x :: l).map encB) := fun row hrow => by
        obtain ⟨y, _, rfl⟩ := List.mem_map.1 hrow; rfl
      refine awp_exit ?_; (repeat (first | refine then_exit ?_ | refine inblock_other (by decide) ?_)); refine inblock_same ?_
      refine awp_seq ?_
      have hl : l.length = d := by simpa using hds
      have hdt : ((d : Int) + 1).toNat - 1 = d := by omega
      have htk : List.take d (l.map encB) = l.map encB := List.take_of_length_le (by simp; omega)
      have hb2 : bytesOk (l.map encB) := fun row hrow => hb1 row (by simp only [List.map_cons, List.mem_cons]; exact .inr hrow)
      have hb3 : bytesOk [encB x] := fun row hrow => hb1 row (by simp only [List.mem_cons, List.not_mem_nil, or_false] at hrow; simp [hrow])
      have hs1 : (bytesOf [encB x]).size = 1 := by simp [bytesOf, strOfNums_size]
      have hs2 : (bytesOf (l.map encB)).size = d := by simp [bytesOf, strOfNums_size, hl]
      have hs3 : (bytesOf [encB x] ++ (⟨#[46]⟩ : ByteArray)).size = 2 := by rw [ByteArray.size_append, hs1]; rfl
      have hs4 : (⟨#[46]⟩ : ByteArray).size = 1 := rfl
      refine awpF_draw [0,1,2,3,4,5,6,7,8,9] (by kernel_rfl) (by kernel_rfl) rfl ?_; intro K hK; simp only [push_cast, seval, hkb, hdt, htk, hs1, hs2, hs3, hs4]
      (repeat ((with_reducible refine And.intro ?_ ?_); (focus (exact ob1))))
      refine hK _ ?_; clear hK; clear K
      refine awp_ret ?_; (repeat (first | refine then_ret ?_ | refine inblock_ret ?_)); refine fin_of (by simp only [push_cast, seval]; first | done | rfl) ob1 ?_
      rw [show dig w (d + 1) rest0 = x :: l from hdig.symm, ← digT_eq]
      rfl
end Go.Aw

namespace Go.Aw
set_option linter.unusedSimpArgs false
set_option linter.unusedVariables false
open Go.RowKit Go.Proofs Go.Nt Go.Rl

theorem aw1 : PD Tryz.prog 25 [.int .i64 2, .int .i64 0, .agg [.int .i64 1, .int .i64 2], .int .i64 3] (.tup [.d (.str ⟨#[48, 46, 50, 53, 48]⟩), .d (.int .i64 0)]) := by
  have h := p15 2 0 1 2 3
  rw [show digOk 2 0 1 2 3 = true by decide +kernel, show digS 2 0 1 2 3 = ⟨#[48, 46, 50, 53, 48]⟩ by decide +kernel] at h
  exact h
theorem aw2 : PD Tryz.prog 36 [.int .i64 5, .int .i64 0, .agg [.int .i64 1, .int .i64 2], .agg [.int .i64 1, .int .i64 32]] (.d (.bool true)) := by
  have h := p23 5 0 1 2 1 32
  rw [show holdsB 5 0 1 2 1 32 = true by decide +kernel] at h
  exact h
theorem aw3 : PD Tryz.prog 36 [.int .i64 4, .int .i64 0, .agg [.int .i64 1, .int .i64 2], .agg [.int .i64 1, .int .i64 32]] (.d (.bool false)) := by
  have h := p23 4 0 1 2 1 32
  rw [show holdsB 4 0 1 2 1 32 = false by decide +kernel] at h
  exact h
theorem aw4 : PD Tryz.prog 28 [.int .i64 0, .agg [.int .i64 1, .int .i64 10], .agg [.int .i64 1, .int .i64 20]] (.d (.int .i64 29)) := by
  have h := p31 0 1 10 1 20
  rw [show neededI 0 1 10 1 20 = 29 by decide +kernel] at h
  exact h
theorem aw5 : PD Tryz.prog 30 [.int .i64 4, .int .i64 4, .int .i64 4, .int .i64 0, .agg [.int .i64 1, .int .i64 50]] (.d (.bool true)) := by
  have h := p25 4 4 4 0 1 50
  rw [show worseB 4 4 4 0 1 50 = true by decide +kernel] at h
  exact h

theorem p19 : PD Tryz.prog 7 [] (.d (.bool true)) := by
  have hs : ((⟨#[48, 46, 50, 53, 48]⟩ : ByteArray) == ⟨#[48, 46, 50, 53, 48]⟩) = true := by decide
  refine pd_of (fn := Tryz.f7) [.tmp 0] (by kernel_rfl) rfl (by kernel_rfl) (Nat.le_of_ble_eq_true rfl) (by kernel_rfl) rfl rfl ?_
  refine awp_seq ?_
  refine awpF_region ?_; intro K hK; simp only [push_cast, seval]; (try simp (disch := omega) only [wrapI]); (repeat ((with_reducible refine And.intro ?_ ?_); (focus (exact ob1)))); refine hK _ ?_; clear hK; clear K
  refine awp_seq ?_
  refine awpF_region ?_; intro K hK; simp only [push_cast, seval]
  refine CallK.pd (p24 1 2) ?_; simp only [push_cast, seval]; (try simp (disch := omega) only [wrapI]); (repeat ((with_reducible refine And.intro ?_ ?_); (focus (exact ob1))))
  refine CallK.pd (aw1) ?_; simp only [push_cast, seval]; (try simp (disch := omega) only [wrapI]); (repeat ((with_reducible refine And.intro ?_ ?_); (focus (exact ob1))))
  refine hK _ ?_; clear hK; clear K
  refine awp_seq ?_
  refine awpF_region ?_; intro K hK; simp only [push_cast, seval, hs]
  refine CallK.pg (fun _ => p24 1 2) ?_; simp only [push_cast, seval]; (try simp (disch := omega) only [wrapI]); (repeat ((with_reducible refine And.intro ?_ ?_); (focus (exact ob1))))
  refine CallK.pg (fun _ => p24 1 32) ?_; simp only [push_cast, seval]; (try simp (disch := omega) only [wrapI]); (repeat ((with_reducible refine And.intro ?_ ?_); (focus (exact ob1))))
  refine CallK.pg (fun _ => aw2) ?_; simp only [push_cast, seval]; (try simp (disch := omega) only [wrapI]); (repeat ((with_reducible refine And.intro ?_ ?_); (focus (exact ob1))))
  refine CallK.pg (fun _ => p24 1 2) ?_; simp only [push_cast, seval]; (try simp (disch := omega) only [wrapI]); (repeat ((with_reducible refine And.intro ?_ ?_); (focus (exact ob1))))
  refine CallK.pg (fun _ => p24 1 32) ?_; simp only [push_cast, seval]; (try simp (disch := omega) only [wrapI]); (repeat ((with_reducible refine And.intro ?_ ?_); (focus (exact ob1))))
  refine CallK.pg (fun _ => aw3) ?_; simp only [push_cast, seval]; (try simp (disch := omega) only [wrapI]); (repeat ((with_reducible refine And.intro ?_ ?_); (focus (exact ob1))))
  refine CallK.pg (fun _ => p24 1 10) ?_; simp only [push_cast, seval]; (try simp (disch := omega) only [wrapI]); (repeat ((with_reducible refine And.intro ?_ ?_); (focus (exact ob1))))
  refine CallK.pg (fun _ => p24 1 20) ?_; simp only [push_cast, seval]; (try simp (disch := omega) only [wrapI]); (repeat ((with_reducible refine And.intro ?_ ?_); (focus (exact ob1))))
  refine CallK.pg (fun _ => aw4) ?_; simp only [push_cast, seval]; (try simp (disch := omega) only [wrapI]); (repeat ((with_reducible refine And.intro ?_ ?_); (focus (exact ob1))))
  refine CallK.pg (fun _ => p24 1 50) ?_; simp only [push_cast, seval]; (try simp (disch := omega) only [wrapI]); (repeat ((with_reducible refine And.intro ?_ ?_); (focus (exact ob1))))
  refine CallK.pg (fun _ => aw5) ?_; simp only [push_cast, seval]; (try simp (disch := omega) only [wrapI]); (repeat ((with_reducible refine And.intro ?_ ?_); (focus (exact ob1))))
  refine hK _ ?_; clear hK; clear K
  refine awp_ret ?_; (repeat (first | refine then_ret ?_ | refine inblock_ret ?_)); refine fin_of (by simp only [push_cast, seval]; first | done | rfl) ob1 ?_
  rfl
end Go.Aw

namespace Go.Aw
set_option linter.unusedSimpArgs false
set_option linter.unusedVariables false
open Go.RowKit Go.Proofs Go.Nt Go.Rl

end Go.Aw
