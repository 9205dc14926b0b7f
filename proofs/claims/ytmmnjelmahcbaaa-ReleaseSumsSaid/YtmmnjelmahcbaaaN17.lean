/-
  Contracts: numbers that are brought into range; rates made of numbers; the statement that not each of two versions is worse than the other one. No condition.
-/
import Derived.Test.YtmmnjelmahcbaaaN16
namespace Go.Aw
set_option linter.unusedSimpArgs false
set_option linter.unusedVariables false
open Go.RowKit Go.Proofs Go.Nt Go.Rl

def modI (n m : Int) : Int := if n.tmod m < 0 then n.tmod m + m else n.tmod m
theorem tmod_bounds {n m : Int} (hm : 0 < m) : -m < n.tmod m ∧ n.tmod m < m := ⟨by have := Int.lt_tmod_of_pos n hm; omega, Int.tmod_lt_of_pos n hm⟩
theorem modI_bounds {n m : Int} (hm : 0 < m) : 0 ≤ modI n m ∧ modI n m < m := by
  have := tmod_bounds (n := n) hm
  unfold modI
  split <;> omega

theorem p20 (n m : Int) (hm : 0 < m) (hm2 : m ≤ 1000000) : PD Try.prog 20 [.int .i64 n, .int .i64 m] (.d (.int .i64 (modI n m))) := by
  have hb := tmod_bounds (n := n) hm
  have hw : IntKind.i64.wrap (n.tmod m + m) = n.tmod m + m := wrapI _ (by omega)
  refine pd_of (fn := Try.f20) [.tmp 4] (by kernel_rfl) rfl (by kernel_rfl) (Nat.le_of_ble_eq_true rfl) (by kernel_rfl) rfl rfl ?_
  refine awp_seq ?_
  refine awpF_region ?_; intro K hK; simp only [push_cast, seval]; (try simp (disch := omega) only [wrapI]); (repeat ((with_reducible refine And.intro ?_ ?_); (focus (first | omega | trivial | assumption | (intro _ hrow; obtain ⟨_, _, rfl⟩ := List.mem_map.1 hrow; rfl) | ((intros; repeat' apply And.intro) <;> first | omega | trivial | assumption | (intro _ hrow; obtain ⟨_, _, rfl⟩ := List.mem_map.1 hrow; rfl) | (simp_all; done) | (simp_all; omega)))))); refine hK _ ?_; clear hK; clear K
  refine awp_seq ?_
  refine awpF_region ?_; intro K hK; simp only [push_cast, seval]; (try simp (disch := omega) only [wrapI]); (repeat ((with_reducible refine And.intro ?_ ?_); (focus (first | omega | trivial | assumption | (intro _ hrow; obtain ⟨_, _, rfl⟩ := List.mem_map.1 hrow; rfl) | ((intros; repeat' apply And.intro) <;> first | omega | trivial | assumption | (intro _ hrow; obtain ⟨_, _, rfl⟩ := List.mem_map.1 hrow; rfl) | (simp_all; done) | (simp_all; omega)))))); refine hK _ ?_; clear hK; clear K
  refine awp_seq ?_
  refine awp_seq ?_
  refine awpF_region ?_; intro K hK; simp only [push_cast, seval]; (try simp (disch := omega) only [wrapI]); (repeat ((with_reducible refine And.intro ?_ ?_); (focus (first | omega | trivial | assumption | (intro _ hrow; obtain ⟨_, _, rfl⟩ := List.mem_map.1 hrow; rfl) | ((intros; repeat' apply And.intro) <;> first | omega | trivial | assumption | (intro _ hrow; obtain ⟨_, _, rfl⟩ := List.mem_map.1 hrow; rfl) | (simp_all; done) | (simp_all; omega)))))); refine hK _ ?_; clear hK; clear K
  apply awp_cond; (focus (simp only [push_cast, seval]; rfl))
  · intro h1; (try simp only [decide_eq_true_eq, decide_eq_false_iff_not, Bool.not_eq_true', Bool.not_eq_false', Bool.and_eq_true, Bool.or_eq_true, Bool.not_eq_true] at h1)
    refine awpF_region ?_; intro K hK; simp only [push_cast, seval, hw]; (try simp (disch := omega) only [wrapI]); (repeat ((with_reducible refine And.intro ?_ ?_); (focus (first | omega | trivial | assumption | (intro _ hrow; obtain ⟨_, _, rfl⟩ := List.mem_map.1 hrow; rfl) | ((intros; repeat' apply And.intro) <;> first | omega | trivial | assumption | (intro _ hrow; obtain ⟨_, _, rfl⟩ := List.mem_map.1 hrow; rfl) | (simp_all; done) | (simp_all; omega)))))); refine hK _ ?_; clear hK; clear K
    refine awp_seq ?_
    refine awpF_region ?_; intro K hK; simp only [push_cast, seval]; (try simp (disch := omega) only [wrapI]); (repeat ((with_reducible refine And.intro ?_ ?_); (focus (first | omega | trivial | assumption | (intro _ hrow; obtain ⟨_, _, rfl⟩ := List.mem_map.1 hrow; rfl) | ((intros; repeat' apply And.intro) <;> first | omega | trivial | assumption | (intro _ hrow; obtain ⟨_, _, rfl⟩ := List.mem_map.1 hrow; rfl) | (simp_all; done) | (simp_all; omega)))))); refine hK _ ?_; clear hK; clear K
    refine awp_ret ?_; (repeat (first | refine then_ret ?_ | refine inblock_ret ?_)); refine fin_of (by simp only [push_cast, seval]; first | done | rfl) (by first | trivial | first | omega | trivial | assumption | (intro _ hrow; obtain ⟨_, _, rfl⟩ := List.mem_map.1 hrow; rfl) | ((intros; repeat' apply And.intro) <;> first | omega | trivial | assumption | (intro _ hrow; obtain ⟨_, _, rfl⟩ := List.mem_map.1 hrow; rfl) | (simp_all; done) | (simp_all; omega))) ?_
    rw [modI, if_pos h1]
  · intro h1; (try simp only [decide_eq_true_eq, decide_eq_false_iff_not, Bool.not_eq_true', Bool.not_eq_false', Bool.and_eq_true, Bool.or_eq_true, Bool.not_eq_true] at h1)
    refine awp_skip ?_
    refine awp_seq ?_
    refine awpF_region ?_; intro K hK; simp only [push_cast, seval]; (try simp (disch := omega) only [wrapI]); (repeat ((with_reducible refine And.intro ?_ ?_); (focus (first | omega | trivial | assumption | (intro _ hrow; obtain ⟨_, _, rfl⟩ := List.mem_map.1 hrow; rfl) | ((intros; repeat' apply And.intro) <;> first | omega | trivial | assumption | (intro _ hrow; obtain ⟨_, _, rfl⟩ := List.mem_map.1 hrow; rfl) | (simp_all; done) | (simp_all; omega)))))); refine hK _ ?_; clear hK; clear K
    refine awp_ret ?_; (repeat (first | refine then_ret ?_ | refine inblock_ret ?_)); refine fin_of (by simp only [push_cast, seval]; first | done | rfl) (by first | trivial | first | omega | trivial | assumption | (intro _ hrow; obtain ⟨_, _, rfl⟩ := List.mem_map.1 hrow; rfl) | ((intros; repeat' apply And.intro) <;> first | omega | trivial | assumption | (intro _ hrow; obtain ⟨_, _, rfl⟩ := List.mem_map.1 hrow; rfl) | (simp_all; done) | (simp_all; omega))) ?_
    rw [modI, if_neg h1]

theorem p21 (n m : Int) (hm : 0 < m) (hm2 : m ≤ 1000000) : PD Try.prog 21 [.int .i64 n, .int .i64 m] (.d (.int .i64 (modI n m))) := by
  have hb := tmod_bounds (n := n) hm
  have hw : IntKind.i64.wrap (n.tmod m + m) = n.tmod m + m := wrapI _ (by omega)
  refine pd_of (fn := Try.f21) [.tmp 4] (by kernel_rfl) rfl (by kernel_rfl) (Nat.le_of_ble_eq_true rfl) (by kernel_rfl) rfl rfl ?_
  refine awp_seq ?_
  refine awpF_region ?_; intro K hK; simp only [push_cast, seval]; (try simp (disch := omega) only [wrapI]); (repeat ((with_reducible refine And.intro ?_ ?_); (focus (first | omega | trivial | assumption | (intro _ hrow; obtain ⟨_, _, rfl⟩ := List.mem_map.1 hrow; rfl) | ((intros; repeat' apply And.intro) <;> first | omega | trivial | assumption | (intro _ hrow; obtain ⟨_, _, rfl⟩ := List.mem_map.1 hrow; rfl) | (simp_all; done) | (simp_all; omega)))))); refine hK _ ?_; clear hK; clear K
  refine awp_seq ?_
  refine awpF_region ?_; intro K hK; simp only [push_cast, seval]; (try simp (disch := omega) only [wrapI]); (repeat ((with_reducible refine And.intro ?_ ?_); (focus (first | omega | trivial | assumption | (intro _ hrow; obtain ⟨_, _, rfl⟩ := List.mem_map.1 hrow; rfl) | ((intros; repeat' apply And.intro) <;> first | omega | trivial | assumption | (intro _ hrow; obtain ⟨_, _, rfl⟩ := List.mem_map.1 hrow; rfl) | (simp_all; done) | (simp_all; omega)))))); refine hK _ ?_; clear hK; clear K
  refine awp_seq ?_
  refine awp_seq ?_
  refine awpF_region ?_; intro K hK; simp only [push_cast, seval]; (try simp (disch := omega) only [wrapI]); (repeat ((with_reducible refine And.intro ?_ ?_); (focus (first | omega | trivial | assumption | (intro _ hrow; obtain ⟨_, _, rfl⟩ := List.mem_map.1 hrow; rfl) | ((intros; repeat' apply And.intro) <;> first | omega | trivial | assumption | (intro _ hrow; obtain ⟨_, _, rfl⟩ := List.mem_map.1 hrow; rfl) | (simp_all; done) | (simp_all; omega)))))); refine hK _ ?_; clear hK; clear K
  apply awp_cond; (focus (simp only [push_cast, seval]; rfl))
  · intro h1; (try simp only [decide_eq_true_eq, decide_eq_false_iff_not, Bool.not_eq_true', Bool.not_eq_false', Bool.and_eq_true, Bool.or_eq_true, Bool.not_eq_true] at h1)
    refine awpF_region ?_; intro K hK; simp only [push_cast, seval, hw]; (try simp (disch := omega) only [wrapI]); (repeat ((with_reducible refine And.intro ?_ ?_); (focus (first | omega | trivial | assumption | (intro _ hrow; obtain ⟨_, _, rfl⟩ := List.mem_map.1 hrow; rfl) | ((intros; repeat' apply And.intro) <;> first | omega | trivial | assumption | (intro _ hrow; obtain ⟨_, _, rfl⟩ := List.mem_map.1 hrow; rfl) | (simp_all; done) | (simp_all; omega)))))); refine hK _ ?_; clear hK; clear K
    refine awp_seq ?_
    refine awpF_region ?_; intro K hK; simp only [push_cast, seval]; (try simp (disch := omega) only [wrapI]); (repeat ((with_reducible refine And.intro ?_ ?_); (focus (first | omega | trivial | assumption | (intro _ hrow; obtain ⟨_, _, rfl⟩ := List.mem_map.1 hrow; rfl) | ((intros; repeat' apply And.intro) <;> first | omega | trivial | assumption | (intro _ hrow; obtain ⟨_, _, rfl⟩ := List.mem_map.1 hrow; rfl) | (simp_all; done) | (simp_all; omega)))))); refine hK _ ?_; clear hK; clear K
    refine awp_ret ?_; (repeat (first | refine then_ret ?_ | refine inblock_ret ?_)); refine fin_of (by simp only [push_cast, seval]; first | done | rfl) (by first | trivial | first | omega | trivial | assumption | (intro _ hrow; obtain ⟨_, _, rfl⟩ := List.mem_map.1 hrow; rfl) | ((intros; repeat' apply And.intro) <;> first | omega | trivial | assumption | (intro _ hrow; obtain ⟨_, _, rfl⟩ := List.mem_map.1 hrow; rfl) | (simp_all; done) | (simp_all; omega))) ?_
    rw [modI, if_pos h1]
  · intro h1; (try simp only [decide_eq_true_eq, decide_eq_false_iff_not, Bool.not_eq_true', Bool.not_eq_false', Bool.and_eq_true, Bool.or_eq_true, Bool.not_eq_true] at h1)
    refine awp_skip ?_
    refine awp_seq ?_
    refine awpF_region ?_; intro K hK; simp only [push_cast, seval]; (try simp (disch := omega) only [wrapI]); (repeat ((with_reducible refine And.intro ?_ ?_); (focus (first | omega | trivial | assumption | (intro _ hrow; obtain ⟨_, _, rfl⟩ := List.mem_map.1 hrow; rfl) | ((intros; repeat' apply And.intro) <;> first | omega | trivial | assumption | (intro _ hrow; obtain ⟨_, _, rfl⟩ := List.mem_map.1 hrow; rfl) | (simp_all; done) | (simp_all; omega)))))); refine hK _ ?_; clear hK; clear K
    refine awp_ret ?_; (repeat (first | refine then_ret ?_ | refine inblock_ret ?_)); refine fin_of (by simp only [push_cast, seval]; first | done | rfl) (by first | trivial | first | omega | trivial | assumption | (intro _ hrow; obtain ⟨_, _, rfl⟩ := List.mem_map.1 hrow; rfl) | ((intros; repeat' apply And.intro) <;> first | omega | trivial | assumption | (intro _ hrow; obtain ⟨_, _, rfl⟩ := List.mem_map.1 hrow; rfl) | (simp_all; done) | (simp_all; omega))) ?_
    rw [modI, if_neg h1]

def madeD (b : Int) : Int := 1 + modI b 1000
def madeN (a b : Int) : Int := modI a (madeD b + 1)
theorem made_rate (a b : Int) : rateB (madeN a b) (madeD b) = true := by
  have h1 := modI_bounds (n := b) (m := 1000) (by decide)
  have h2 := modI_bounds (n := a) (m := madeD b + 1) (by unfold madeD; omega)
  rw [rateB_iff]
  unfold madeN madeD at *
  omega

theorem p22 (a b : Int) : PD Try.prog 22 [.agg [.int .i64 a, .int .i64 b]] (.agg [.d (.int .i64 (madeN a b)), .d (.int .i64 (madeD b))]) := by
  have h1 := modI_bounds (n := b) (m := 1000) (by decide)
  have hd : IntKind.i64.wrap (1 + modI b 1000) = madeD b := (wrapI _ (by omega)).trans rfl
  have hdb : 1 ≤ madeD b ∧ madeD b ≤ 1000 := by unfold madeD; omega
  have hd1 : IntKind.i64.wrap (madeD b + 1) = madeD b + 1 := wrapI _ (by omega)
  have h21 := p21 a (madeD b + 1) (by omega) (by omega)
  have h24 := p24 (madeN a b) (madeD b)
  refine pd_of (fn := Try.f22) [.cell 2 23] (by kernel_rfl) rfl (by kernel_rfl) (Nat.le_of_ble_eq_true rfl) (by kernel_rfl) rfl rfl ?_
  refine awp_seq ?_
  refine awpF_region ?_; intro K hK; simp only [push_cast, seval]; (try simp (disch := omega) only [wrapI]); (repeat ((with_reducible refine And.intro ?_ ?_); (focus (first | omega | trivial | assumption | (intro _ hrow; obtain ⟨_, _, rfl⟩ := List.mem_map.1 hrow; rfl) | ((intros; repeat' apply And.intro) <;> first | omega | trivial | assumption | (intro _ hrow; obtain ⟨_, _, rfl⟩ := List.mem_map.1 hrow; rfl) | (simp_all; done) | (simp_all; omega)))))); refine hK _ ?_; clear hK; clear K
  refine awp_seq ?_
  refine awpF_region ?_; intro K hK; simp only [push_cast, seval]
  refine CallK.pd (p21 b 1000 (by decide) (by decide)) ?_
  simp only [push_cast, seval, hd]
  refine hK _ ?_; clear hK; clear K
  refine awp_seq ?_
  refine awpF_region ?_; intro K hK; simp only [push_cast, seval, hd1]
  refine CallK.pd (h21) ?_; simp only [push_cast, seval]; (try simp (disch := omega) only [wrapI]); (repeat ((with_reducible refine And.intro ?_ ?_); (focus (first | omega | trivial | assumption | (intro _ hrow; obtain ⟨_, _, rfl⟩ := List.mem_map.1 hrow; rfl) | ((intros; repeat' apply And.intro) <;> first | omega | trivial | assumption | (intro _ hrow; obtain ⟨_, _, rfl⟩ := List.mem_map.1 hrow; rfl) | (simp_all; done) | (simp_all; omega))))))
  rw [show modI a (madeD b + 1) = madeN a b from rfl]
  refine CallK.pd (h24) ?_; simp only [push_cast, seval]; (try simp (disch := omega) only [wrapI]); (repeat ((with_reducible refine And.intro ?_ ?_); (focus (first | omega | trivial | assumption | (intro _ hrow; obtain ⟨_, _, rfl⟩ := List.mem_map.1 hrow; rfl) | ((intros; repeat' apply And.intro) <;> first | omega | trivial | assumption | (intro _ hrow; obtain ⟨_, _, rfl⟩ := List.mem_map.1 hrow; rfl) | (simp_all; done) | (simp_all; omega))))))
  refine hK _ ?_; clear hK; clear K
  refine awp_ret ?_; (repeat (first | refine then_ret ?_ | refine inblock_ret ?_)); refine fin_of (by simp only [push_cast, seval]; first | done | rfl) (by first | trivial | first | omega | trivial | assumption | (intro _ hrow; obtain ⟨_, _, rfl⟩ := List.mem_map.1 hrow; rfl) | ((intros; repeat' apply And.intro) <;> first | omega | trivial | assumption | (intro _ hrow; obtain ⟨_, _, rfl⟩ := List.mem_map.1 hrow; rfl) | (simp_all; done) | (simp_all; omega))) ?_
  rfl

theorem cs_pos : ∀ (n k : Nat), k ≤ n → 0 < cs 1 1 n k
  | 0, 0, _ => by decide
  | n + 1, 0, _ => by rw [cs_zero]; simp
  | n + 1, k + 1, h => by
    rw [cs]
    have := cs_pos n k (by omega)
    omega
theorem sumF_zero_ext {f : Nat → Nat} {a : Nat} (h : ∀ i, a ≤ i → f i = 0) : ∀ m, sumF f (a + m) = sumF f a
  | 0 => rfl
  | m + 1 => by rw [← Nat.add_assoc, sumF, sumF_zero_ext h m, h _ (by omega)]; rfl
theorem wt_sum (n m s : Nat) : sumF (wt n m s) (n + 1) = sumF (fun i => cs 1 1 n i * cs 1 1 m (s - i)) (s + 1) := by
  have e1 := sumF_zero_ext (f := wt n m s) (a := n + 1) (fun i hi => by unfold wt; split <;> simp [cs_big 1 1 n i (by omega)]) (s + 1)
  have e2 := sumF_zero_ext (f := wt n m s) (a := s + 1) (fun i hi => by unfold wt; rw [if_neg (by omega)]) (n + 1)
  rw [← e1, Nat.add_comm, e2]
  exact sumF_congr fun i hi => by unfold wt; rw [if_pos (by omega)]
theorem wtK_sum (n m k j : Nat) : sumF (wtK n m (k + j) k) (n + 1) = conv (cs 1 1 n) (cs 1 1 m) (k + j) k (j + 1) := by
  have e1 := sumF_zero_ext (f := wtK n m (k + j) k) (a := n + 1) (fun i hi => by unfold wtK wt; split <;> (try split) <;> simp [cs_big 1 1 n i (by omega)]) (k + j + 1)
  have e2 := sumF_zero_ext (f := wtK n m (k + j) k) (a := k + j + 1) (fun i hi => by unfold wtK wt; split <;> (try split) <;> first | omega | rfl) (n + 1)
  rw [← e1, Nat.add_comm (n + 1) (k + j + 1), e2, show k + j + 1 = k + (j + 1) by omega, sumF_split]
  have z : sumF (wtK n m (k + j) k) k = 0 := by
    have : ∀ t, t ≤ k → sumF (wtK n m (k + j) k) t = 0 := by
      intro t
      induction t with
      | zero => intro _; rfl
      | succ t ih => intro ht; rw [sumF, ih (by omega), wtK, if_neg (by omega)]
    exact this k (Nat.le_refl _)
  rw [z, Nat.zero_add]
  unfold conv
  have : ∀ t, t ≤ j + 1 → sumN (wtK n m (k + j) k) k t = sumN (fun i => cs 1 1 n i * cs 1 1 m (k + j - i)) k t := by
    intro t
    induction t with
    | zero => intro _; rfl
    | succ t ih => intro ht; rw [sumN, sumN, ih (by omega), wtK, if_pos (by omega), wt, if_pos (by omega)]
  exact this (j + 1) (Nat.le_refl _)

/-- Not each is worse than the other one. -/
theorem not_both {n k m j an ad : Int} (h : 2 * an < ad) : (worseB n k m j an ad && worseB m j n k an ad) = false := by
  cases h1 : worseB n k m j an ad with
  | false => rfl
  | true =>
    cases h2 : worseB m j n k an ad with
    | false => rfl
    | true =>
      exfalso
      unfold worseB at h1 h2
      simp only [Bool.and_eq_true, decide_eq_true_eq] at h1 h2
      obtain ⟨⟨⟨ha, hnk⟩, hmj⟩, h1⟩ := h1
      obtain ⟨_, h2⟩ := h2
      obtain ⟨a1, a2, a3, a4⟩ := rateB_iff.1 ha
      obtain ⟨b1, b2, b3⟩ := fairB_iff.1 hnk
      obtain ⟨c1, c2, c3⟩ := fairB_iff.1 hmj
      have hne := neither (cs 1 1 n.toNat) (cs 1 1 m.toNat) k.toNat j.toNat
      have hp1 := cs_pos n.toNat k.toNat (by omega)
      have hp2 := cs_pos m.toNat j.toNat (by omega)
      have hc := Nat.mul_pos hp1 hp2
      rw [wt_sum, wtK_sum] at h1
      rw [wt_sum, wtK_sum] at h2
      have hsym : sumF (fun i => cs 1 1 m.toNat i * cs 1 1 n.toNat (j.toNat + k.toNat - i)) (j.toNat + k.toNat + 1) = sumF (fun i => cs 1 1 n.toNat i * cs 1 1 m.toNat (k.toNat + j.toNat - i)) (k.toNat + j.toNat + 1) := by
        rw [sumF_rev, Nat.add_comm j.toNat k.toNat]
        exact sumF_congr fun i hi => by
          rw [Nat.mul_comm, show k.toNat + j.toNat - (k.toNat + j.toNat + 1 - 1 - i) = i by omega, show k.toNat + j.toNat + 1 - 1 - i = k.toNat + j.toNat - i by omega]
      rw [hsym] at h2
      generalize sumF (fun i => cs 1 1 n.toNat i * cs 1 1 m.toNat (k.toNat + j.toNat - i)) (k.toNat + j.toNat + 1) = W at *
      generalize conv (cs 1 1 n.toNat) (cs 1 1 m.toNat) (k.toNat + j.toNat) k.toNat (j.toNat + 1) = P1 at *
      generalize conv (cs 1 1 m.toNat) (cs 1 1 n.toNat) (j.toNat + k.toNat) j.toNat (k.toNat + 1) = P2 at *
      generalize cs 1 1 n.toNat k.toNat * cs 1 1 m.toNat j.toNat = c at *
      have e1 : (P1 + P2) * ad.toNat ≤ W * (2 * an.toNat) := by rw [Nat.add_mul, Nat.mul_left_comm]; omega
      have e2 : W * (2 * an.toNat) ≤ W * ad.toNat := Nat.mul_le_mul_left _ (by omega)
      rw [hne, Nat.add_mul] at e1
      have e3 : 0 < c * ad.toNat := Nat.mul_pos hc (by omega)
      omega

theorem p5 (n k m j a b : Int) : PD Try.prog 5 [.int .i64 n, .int .i64 k, .int .i64 m, .int .i64 j, .agg [.int .i64 a, .int .i64 b]] (.d (.bool true)) := by
  have bn := modI_bounds (n := n) (m := 21) (by decide)
  have bm := modI_bounds (n := m) (m := 21) (by decide)
  have wn : IntKind.i64.wrap (modI n 21 + 1) = modI n 21 + 1 := wrapI _ (by omega)
  have wm : IntKind.i64.wrap (modI m 21 + 1) = modI m 21 + 1 := wrapI _ (by omega)
  have hr := made_rate a b
  obtain ⟨r1, r2, r3, r4⟩ := rateB_iff.1 hr
  have w2 : IntKind.i64.wrap (2 * madeN a b) = 2 * madeN a b := wrapI _ (by omega)
  have h20a := p20 n 21 (by decide) (by decide)
  have h20b := p20 m 21 (by decide) (by decide)
  have h20c := p20 k (modI n 21 + 1) (by omega) (by omega)
  have h20d := p20 j (modI m 21 + 1) (by omega) (by omega)
  refine pd_of (fn := Try.f5) [.tmp 10] (by kernel_rfl) rfl (by kernel_rfl) (Nat.le_of_ble_eq_true rfl) (by kernel_rfl) rfl rfl ?_
  refine awp_seq ?_
  refine awpF_region ?_; intro K hK; simp only [push_cast, seval]; (try simp (disch := omega) only [wrapI]); (repeat ((with_reducible refine And.intro ?_ ?_); (focus (first | omega | trivial | assumption | (intro _ hrow; obtain ⟨_, _, rfl⟩ := List.mem_map.1 hrow; rfl) | ((intros; repeat' apply And.intro) <;> first | omega | trivial | assumption | (intro _ hrow; obtain ⟨_, _, rfl⟩ := List.mem_map.1 hrow; rfl) | (simp_all; done) | (simp_all; omega)))))); refine hK _ ?_; clear hK; clear K
  refine awp_seq ?_
  refine awpF_region ?_; intro K hK; simp only [push_cast, seval]
  refine CallK.pd (h20a) ?_; simp only [push_cast, seval]; (try simp (disch := omega) only [wrapI]); (repeat ((with_reducible refine And.intro ?_ ?_); (focus (first | omega | trivial | assumption | (intro _ hrow; obtain ⟨_, _, rfl⟩ := List.mem_map.1 hrow; rfl) | ((intros; repeat' apply And.intro) <;> first | omega | trivial | assumption | (intro _ hrow; obtain ⟨_, _, rfl⟩ := List.mem_map.1 hrow; rfl) | (simp_all; done) | (simp_all; omega))))))
  refine CallK.pd (h20b) ?_; simp only [push_cast, seval]; (try simp (disch := omega) only [wrapI]); (repeat ((with_reducible refine And.intro ?_ ?_); (focus (first | omega | trivial | assumption | (intro _ hrow; obtain ⟨_, _, rfl⟩ := List.mem_map.1 hrow; rfl) | ((intros; repeat' apply And.intro) <;> first | omega | trivial | assumption | (intro _ hrow; obtain ⟨_, _, rfl⟩ := List.mem_map.1 hrow; rfl) | (simp_all; done) | (simp_all; omega))))))
  refine hK _ ?_; clear hK; clear K
  refine awp_seq ?_
  refine awpF_region ?_; intro K hK; simp only [push_cast, seval, wn]
  refine CallK.pd h20c ?_
  simp only [push_cast, seval, wm]
  refine CallK.pd (h20d) ?_; simp only [push_cast, seval]; (try simp (disch := omega) only [wrapI]); (repeat ((with_reducible refine And.intro ?_ ?_); (focus (first | omega | trivial | assumption | (intro _ hrow; obtain ⟨_, _, rfl⟩ := List.mem_map.1 hrow; rfl) | ((intros; repeat' apply And.intro) <;> first | omega | trivial | assumption | (intro _ hrow; obtain ⟨_, _, rfl⟩ := List.mem_map.1 hrow; rfl) | (simp_all; done) | (simp_all; omega))))))
  refine hK _ ?_; clear hK; clear K
  refine awp_seq ?_
  refine awpF_region ?_; intro K hK; simp only [push_cast, seval]
  refine CallK.pd (p22 a b) ?_; simp only [push_cast, seval]; (try simp (disch := omega) only [wrapI]); (repeat ((with_reducible refine And.intro ?_ ?_); (focus (first | omega | trivial | assumption | (intro _ hrow; obtain ⟨_, _, rfl⟩ := List.mem_map.1 hrow; rfl) | ((intros; repeat' apply And.intro) <;> first | omega | trivial | assumption | (intro _ hrow; obtain ⟨_, _, rfl⟩ := List.mem_map.1 hrow; rfl) | (simp_all; done) | (simp_all; omega))))))
  refine hK _ ?_; clear hK; clear K
  refine awp_seq ?_
  refine awp_seq ?_
  refine awpF_region ?_; intro K hK; simp only [push_cast, seval, w2]; (try simp (disch := omega) only [wrapI]); (repeat ((with_reducible refine And.intro ?_ ?_); (focus (first | omega | trivial | assumption | (intro _ hrow; obtain ⟨_, _, rfl⟩ := List.mem_map.1 hrow; rfl) | ((intros; repeat' apply And.intro) <;> first | omega | trivial | assumption | (intro _ hrow; obtain ⟨_, _, rfl⟩ := List.mem_map.1 hrow; rfl) | (simp_all; done) | (simp_all; omega)))))); refine hK _ ?_; clear hK; clear K
  apply awp_cond; (focus (simp only [push_cast, seval]; rfl))
  · intro h1; (try simp only [decide_eq_true_eq, decide_eq_false_iff_not, Bool.not_eq_true', Bool.not_eq_false', Bool.and_eq_true, Bool.or_eq_true, Bool.not_eq_true] at h1)
    refine awp_seq ?_
    refine awpF_region ?_; intro K hK; simp only [push_cast, seval]
    refine CallK.pd (p19) ?_; simp only [push_cast, seval]; (try simp (disch := omega) only [wrapI]); (repeat ((with_reducible refine And.intro ?_ ?_); (focus (first | omega | trivial | assumption | (intro _ hrow; obtain ⟨_, _, rfl⟩ := List.mem_map.1 hrow; rfl) | ((intros; repeat' apply And.intro) <;> first | omega | trivial | assumption | (intro _ hrow; obtain ⟨_, _, rfl⟩ := List.mem_map.1 hrow; rfl) | (simp_all; done) | (simp_all; omega))))))
    refine hK _ ?_; clear hK; clear K
    refine awp_ret ?_; (repeat (first | refine then_ret ?_ | refine inblock_ret ?_)); refine fin_of (by simp only [push_cast, seval]; first | done | rfl) (by first | trivial | first | omega | trivial | assumption | (intro _ hrow; obtain ⟨_, _, rfl⟩ := List.mem_map.1 hrow; rfl) | ((intros; repeat' apply And.intro) <;> first | omega | trivial | assumption | (intro _ hrow; obtain ⟨_, _, rfl⟩ := List.mem_map.1 hrow; rfl) | (simp_all; done) | (simp_all; omega))) ?_
    rfl
  · intro h1; (try simp only [decide_eq_true_eq, decide_eq_false_iff_not, Bool.not_eq_true', Bool.not_eq_false', Bool.and_eq_true, Bool.or_eq_true, Bool.not_eq_true] at h1)
    have hno := not_both (n := modI n 21) (k := modI k (modI n 21 + 1)) (m := modI m 21) (j := modI j (modI m 21 + 1)) (an := madeN a b) (ad := madeD b) (by omega)
    refine awp_skip ?_
    refine awp_seq ?_
    refine awpF_region ?_; intro K hK; simp only [push_cast, seval]
    refine CallK.pd (p25 _ _ _ _ _ _) ?_; simp only [push_cast, seval]; (try simp (disch := omega) only [wrapI]); (repeat ((with_reducible refine And.intro ?_ ?_); (focus (first | omega | trivial | assumption | (intro _ hrow; obtain ⟨_, _, rfl⟩ := List.mem_map.1 hrow; rfl) | ((intros; repeat' apply And.intro) <;> first | omega | trivial | assumption | (intro _ hrow; obtain ⟨_, _, rfl⟩ := List.mem_map.1 hrow; rfl) | (simp_all; done) | (simp_all; omega))))))
    refine CallK.pg (fun _ => p25 _ _ _ _ _ _) ?_; simp only [push_cast, seval]; (try simp (disch := omega) only [wrapI]); (repeat ((with_reducible refine And.intro ?_ ?_); (focus (first | omega | trivial | assumption | (intro _ hrow; obtain ⟨_, _, rfl⟩ := List.mem_map.1 hrow; rfl) | ((intros; repeat' apply And.intro) <;> first | omega | trivial | assumption | (intro _ hrow; obtain ⟨_, _, rfl⟩ := List.mem_map.1 hrow; rfl) | (simp_all; done) | (simp_all; omega))))))
    rw [bif_and, hno]
    refine CallK.pg (fun _ => p19) ?_; simp only [push_cast, seval]; (try simp (disch := omega) only [wrapI]); (repeat ((with_reducible refine And.intro ?_ ?_); (focus (first | omega | trivial | assumption | (intro _ hrow; obtain ⟨_, _, rfl⟩ := List.mem_map.1 hrow; rfl) | ((intros; repeat' apply And.intro) <;> first | omega | trivial | assumption | (intro _ hrow; obtain ⟨_, _, rfl⟩ := List.mem_map.1 hrow; rfl) | (simp_all; done) | (simp_all; omega))))))
    refine hK _ ?_; clear hK; clear K
    refine awp_ret ?_; (repeat (first | refine then_ret ?_ | refine inblock_ret ?_)); refine fin_of (by simp only [push_cast, seval]; first | done | rfl) (by first | trivial | first | omega | trivial | assumption | (intro _ hrow; obtain ⟨_, _, rfl⟩ := List.mem_map.1 hrow; rfl) | ((intros; repeat' apply And.intro) <;> first | omega | trivial | assumption | (intro _ hrow; obtain ⟨_, _, rfl⟩ := List.mem_map.1 hrow; rfl) | (simp_all; done) | (simp_all; omega))) ?_
    rfl
end Go.Aw
