/-
  Contracts: what shows that a rate holds, or does not. No condition.
-/
import Derived.Test.YtmmnjelmahcbaaaN11
namespace Go.Aw
set_option linter.unusedSimpArgs false
set_option linter.unusedVariables false
open Go.RowKit Go.Proofs Go.Nt Go.Rl

theorem rate_eq (n d : Int) : ((if rateB n d = true then (0 : Int) else 2) == 0) = rateB n d := by cases rateB n d <;> rfl
theorem rate_ne (n d : Int) : ((if rateB n d = true then (0 : Int) else 2) != 0) = !rateB n d := by cases rateB n d <;> rfl

/-- What 'Holds' answers. -/
def holdsB (n k rn rd an ad : Int) : Bool := rateB rn rd && rateB an ad && fairB n k && decide (lo rn.toNat (rd - rn).toNat n.toNat (k.toNat + 1) * ad.toNat ≤ rd.toNat ^ n.toNat * an.toNat)

theorem nw_lo {p q n k : Nat} (h : p + q ≤ 1000) (hn : n ≤ 60) : nw (lo p q n k) ≤ 100 := Nat.le_trans (nw_mono (lo_le p q n k)) (Nat.le_trans (nw_pow h hn) (by decide))
theorem nw_sumN {p q n a m : Nat} (h : p + q ≤ 1000) (hn : n ≤ 60) : nw (sumN (cs p q n) a m) ≤ 100 := Nat.le_trans (nw_mono (sumN_le p q n a m)) (Nat.le_trans (nw_pow h hn) (by decide))

theorem p23 (n k rn rd an ad : Int) : PD Try.prog 23 [.int .i64 n, .int .i64 k, .agg [.int .i64 rn, .int .i64 rd], .agg [.int .i64 an, .int .i64 ad]] (.d (.bool (holdsB n k rn rd an ad))) := by
  have key : rateB rn rd = true → fairB n k = true → nw (lo rn.toNat (rd - rn).toNat n.toNat (k.toNat + 1)) ≤ 100 ∧ nw (rd.toNat ^ n.toNat) ≤ 100 := fun h1 h2 => by
    obtain ⟨a1, a2, a3, a4⟩ := rateB_iff.1 h1
    obtain ⟨b1, b2, b3⟩ := fairB_iff.1 h2
    exact ⟨nw_lo (by omega) (by omega), Nat.le_trans (nw_pow (by omega) (by omega)) (by decide)⟩
  refine pd_of (fn := Try.f23) [.tmp 8] (by kernel_rfl) rfl (by kernel_rfl) (Nat.le_of_ble_eq_true rfl) (by kernel_rfl) rfl rfl ?_
  refine awp_seq ?_
  refine awpF_region ?_; intro K hK; simp only [push_cast, seval]; (try simp (disch := omega) only [wrapI]); (repeat ((with_reducible refine And.intro ?_ ?_); (focus (first | omega | trivial | assumption | (intro _ hrow; obtain ⟨_, _, rfl⟩ := List.mem_map.1 hrow; rfl) | ((intros; repeat' apply And.intro) <;> first | omega | trivial | assumption | (intro _ hrow; obtain ⟨_, _, rfl⟩ := List.mem_map.1 hrow; rfl) | (simp_all; done) | (simp_all; omega)))))); refine hK _ ?_; clear hK; clear K
  refine awp_seq ?_
  refine awpF_draw [0,1,2,3,4,5,6,7,8,9,10,11,12,13,14,15,16,18,19,20,22,17,21,23,24,25] (by kernel_rfl) (by kernel_rfl) rfl ?_; intro K hK; simp only [push_cast, seval]
  refine CallK.pd (p17 rn rd) ?_
  simp only [push_cast, seval, rate_eq, bif_and]
  refine CallK.pg (fun _ => p17 an ad) ?_
  simp only [push_cast, seval, rate_eq, bif_and]
  refine CallK.pg (fun _ => p51 n k) ?_
  simp only [push_cast, seval, bif_and]
  refine CallK.pg (fun h => p52l n k rn rd (by simp only [Bool.and_eq_true] at h; exact h.1.1) (by simp only [Bool.and_eq_true] at h; exact h.2)) ?_
  simp only [push_cast, seval, bif_and]
  refine CallK.pg (fun h => p53i n k rn rd (by simp only [Bool.and_eq_true] at h; exact h.1.1) (by simp only [Bool.and_eq_true] at h; exact h.2)) ?_
  simp only [push_cast, seval, bif_and]
  refine CallK.pg (fun h => p64 _ _ an ad (by simp only [Bool.and_eq_true] at h; exact h.1.2) (by simp only [Bool.and_eq_true] at h; exact (key h.1.1 h.2).1) (by simp only [Bool.and_eq_true] at h; exact (key h.1.1 h.2).2)) ?_
  simp only [push_cast, seval, bif_and]
  (repeat ((with_reducible refine And.intro ?_ ?_); (focus (first | omega | trivial | assumption | (intro _ hrow; obtain ⟨_, _, rfl⟩ := List.mem_map.1 hrow; rfl) | ((intros; repeat' apply And.intro) <;> first | omega | trivial | assumption | (intro _ hrow; obtain ⟨_, _, rfl⟩ := List.mem_map.1 hrow; rfl) | (simp_all; done) | (simp_all; omega))))))
  refine hK _ ?_; clear hK; clear K
  refine awp_ret ?_; (repeat (first | refine then_ret ?_ | refine inblock_ret ?_)); refine fin_of (by simp only [push_cast, seval]; first | done | rfl) (by first | trivial | first | omega | trivial | assumption | (intro _ hrow; obtain ⟨_, _, rfl⟩ := List.mem_map.1 hrow; rfl) | ((intros; repeat' apply And.intro) <;> first | omega | trivial | assumption | (intro _ hrow; obtain ⟨_, _, rfl⟩ := List.mem_map.1 hrow; rfl) | (simp_all; done) | (simp_all; omega))) ?_
  rfl

/-- What 'Fails' answers. -/
def failsB (n k rn rd bn bd : Int) : Bool := rateB rn rd && rateB bn bd && fairB n k && decide (sumN (cs rn.toNat (rd - rn).toNat n.toNat) k.toNat (n.toNat - k.toNat + 1) * bd.toNat ≤ rd.toNat ^ n.toNat * bn.toNat)

theorem p26 (n k rn rd an ad : Int) : PD Try.prog 26 [.int .i64 n, .int .i64 k, .agg [.int .i64 rn, .int .i64 rd], .agg [.int .i64 an, .int .i64 ad]] (.d (.bool (failsB n k rn rd an ad))) := by
  have key : rateB rn rd = true → fairB n k = true → nw (sumN (cs rn.toNat (rd - rn).toNat n.toNat) k.toNat (n.toNat - k.toNat + 1)) ≤ 100 ∧ nw (rd.toNat ^ n.toNat) ≤ 100 := fun h1 h2 => by
    obtain ⟨a1, a2, a3, a4⟩ := rateB_iff.1 h1
    obtain ⟨b1, b2, b3⟩ := fairB_iff.1 h2
    exact ⟨nw_sumN (by omega) (by omega), Nat.le_trans (nw_pow (by omega) (by omega)) (by decide)⟩
  refine pd_of (fn := Try.f26) [.tmp 8] (by kernel_rfl) rfl (by kernel_rfl) (Nat.le_of_ble_eq_true rfl) (by kernel_rfl) rfl rfl ?_
  refine awp_seq ?_
  refine awpF_region ?_; intro K hK; simp only [push_cast, seval]; (try simp (disch := omega) only [wrapI]); (repeat ((with_reducible refine And.intro ?_ ?_); (focus (first | omega | trivial | assumption | (intro _ hrow; obtain ⟨_, _, rfl⟩ := List.mem_map.1 hrow; rfl) | ((intros; repeat' apply And.intro) <;> first | omega | trivial | assumption | (intro _ hrow; obtain ⟨_, _, rfl⟩ := List.mem_map.1 hrow; rfl) | (simp_all; done) | (simp_all; omega)))))); refine hK _ ?_; clear hK; clear K
  refine awp_seq ?_
  refine awpF_draw [0,1,2,3,4,5,6,7,8,9,10,11,12,13,14,15,16,17,19,20,21,23,18,22,24,25,26] (by kernel_rfl) (by kernel_rfl) rfl ?_; intro K hK; simp only [push_cast, seval]
  refine CallK.pd (p17 rn rd) ?_
  simp only [push_cast, seval, rate_eq, bif_and]
  refine CallK.pg (fun _ => p17 an ad) ?_
  simp only [push_cast, seval, rate_eq, bif_and]
  refine CallK.pg (fun _ => p51 n k) ?_
  simp only [push_cast, seval, bif_and]
  refine CallK.pg (fun h => p52u n k rn rd (by simp only [Bool.and_eq_true] at h; exact h.1.1) (by simp only [Bool.and_eq_true] at h; exact h.2)) ?_
  simp only [push_cast, seval, bif_and]
  refine CallK.pg (fun h => p53i n k rn rd (by simp only [Bool.and_eq_true] at h; exact h.1.1) (by simp only [Bool.and_eq_true] at h; exact h.2)) ?_
  simp only [push_cast, seval, bif_and]
  refine CallK.pg (fun h => p64 _ _ an ad (by simp only [Bool.and_eq_true] at h; exact h.1.2) (by simp only [Bool.and_eq_true] at h; exact (key h.1.1 h.2).1) (by simp only [Bool.and_eq_true] at h; exact (key h.1.1 h.2).2)) ?_
  simp only [push_cast, seval, bif_and]
  (repeat ((with_reducible refine And.intro ?_ ?_); (focus (first | omega | trivial | assumption | (intro _ hrow; obtain ⟨_, _, rfl⟩ := List.mem_map.1 hrow; rfl) | ((intros; repeat' apply And.intro) <;> first | omega | trivial | assumption | (intro _ hrow; obtain ⟨_, _, rfl⟩ := List.mem_map.1 hrow; rfl) | (simp_all; done) | (simp_all; omega))))))
  refine hK _ ?_; clear hK; clear K
  refine awp_ret ?_; (repeat (first | refine then_ret ?_ | refine inblock_ret ?_)); refine fin_of (by simp only [push_cast, seval]; first | done | rfl) (by first | trivial | first | omega | trivial | assumption | (intro _ hrow; obtain ⟨_, _, rfl⟩ := List.mem_map.1 hrow; rfl) | ((intros; repeat' apply And.intro) <;> first | omega | trivial | assumption | (intro _ hrow; obtain ⟨_, _, rfl⟩ := List.mem_map.1 hrow; rfl) | (simp_all; done) | (simp_all; omega))) ?_
  rfl
end Go.Aw
