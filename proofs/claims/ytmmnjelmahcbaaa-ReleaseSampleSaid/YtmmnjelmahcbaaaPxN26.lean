/-
  ReleaseSample: what is learned from all samples of a few numbers. No condition.
-/
import Derived.Test.YtmmnjelmahcbaaaPxN24
import Derived.Test.YtmmnjelmahcbaaaPkG
namespace Go.Aw
set_option linter.unusedSimpArgs false
set_option linter.unusedVariables false
open Go.RowKit Go.Proofs Go.Nt Go.Rl

def digsI (d : Nat) : Nat → Nat → List Int
  | _, 0 => []
  | w, n + 1 => ((w % d : Nat) : Int) :: digsI d (w / d) n
theorem digsI_len (d : Nat) : ∀ (n w : Nat), (digsI d w n).length = n
  | 0, _ => rfl
  | n + 1, w => by simp [digsI, digsI_len d n]
theorem digsI_snoc (d : Nat) : ∀ (n w : Nat), digsI d w (n + 1) = digsI d w n ++ [((w / d ^ n % d : Nat) : Int)]
  | 0, w => by simp [digsI]
  | n + 1, w => by
    rw [digsI, digsI_snoc d n (w / d), digsI, List.cons_append, Nat.div_div_eq_div_mul, Nat.pow_succ, Nat.mul_comm d]
theorem digsI_tops (d b : Nat) : ∀ (n w : Nat), (digsI d w n).countP (fun v => decide ((b : Int) ≤ v)) = tops d b w n
  | 0, _ => rfl
  | n + 1, w => by
    rw [digsI, List.countP_cons, digsI_tops d b n (w / d), tops, Nat.add_comm]
    by_cases h : b ≤ w % d
    · rw [if_pos h, if_pos (by simp; exact_mod_cast h)]
    · rw [if_neg h, if_neg (by simp; exact_mod_cast (by omega : w % d < b))]
/-- The number at a place from above is below a bound exactly where no more than so many reach it. -/
theorem low_iff (xs : List Int) (b : Int) (k : Nat) (hk : k < xs.length) : ((sortI xs)[xs.length - 1 - k]?.getD 0 < b) ↔ xs.countP (fun v => decide (b ≤ v)) < k + 1 := by
  have hl := sortI_len xs
  have ha := sortI_asc xs
  rw [← (sortI_perm xs).countP_eq]
  generalize sortI xs = s at *
  rw [← hl] at hk ⊢
  have hi : s.length - 1 - k < s.length := by omega
  rw [List.getElem?_eq_getElem hi, Option.getD_some]
  have ha' := List.pairwise_iff_getElem.1 ha
  constructor
  · intro h
    have e : s = s.take (s.length - k) ++ s.drop (s.length - k) := (List.take_append_drop _ _).symm
    rw [e, List.countP_append]
    have h0 : (s.take (s.length - k)).countP (fun v => decide (b ≤ v)) = 0 := by
      rw [List.countP_eq_zero]
      intro v hv
      obtain ⟨j, hj, rfl⟩ := List.getElem_of_mem hv
      rw [List.getElem_take]
      simp only [List.length_take] at hj
      simp only [decide_eq_true_eq]
      rcases Nat.lt_or_ge j (s.length - 1 - k) with h1 | h1
      · have := ha' j (s.length - 1 - k) (by omega) hi h1; omega
      · have : j = s.length - 1 - k := by omega
        subst this; omega
    have h1 : (s.drop (s.length - k)).countP (fun v => decide (b ≤ v)) ≤ k := by
      refine Nat.le_trans List.countP_le_length ?_
      rw [List.length_drop]; omega
    omega
  · intro h
    rcases Int.lt_or_le (s[s.length - 1 - k]) b with h1 | h1
    · exact h1
    · exfalso
      have e : s = s.take (s.length - 1 - k) ++ s.drop (s.length - 1 - k) := (List.take_append_drop _ _).symm
      have h2 : (s.drop (s.length - 1 - k)).countP (fun v => decide (b ≤ v)) = (s.drop (s.length - 1 - k)).length := by
        rw [List.countP_eq_length]
        intro v hv
        obtain ⟨j, hj, rfl⟩ := List.getElem_of_mem hv
        rw [List.getElem_drop]
        simp only [List.length_drop] at hj
        simp only [decide_eq_true_eq]
        rcases Nat.eq_zero_or_pos j with h3 | h3
        · subst h3; simpa using h1
        · have := ha' (s.length - 1 - k) (s.length - 1 - k + j) hi (by omega) (by omega); omega
      rw [e, List.countP_append, h2, List.length_drop] at h
      omega

/-- One sample: is it learned, and from too low a number? -/
def badB (n : Nat) (q d : Nat) (an ad : Int) (w : Nat) : Bool := learnB (digsI d w n) q d an ad && decide (learnI (digsI d w n) q d an ad < (d : Int) - q)
theorem sample_law {n q d : Nat} {an ad : Int} (hn : n ≤ 60) (hq : q ≤ d) (hd : 0 < d) (hd2 : d ≤ 1000) (ha : rateB an ad = true) :
    (sumF (fun w => if badB n q d an ad w then 1 else 0) (d ^ n) : Nat) * ad ≤ ((d ^ n : Nat) : Int) * an := by
  obtain ⟨a1, a2, a3, a4⟩ := rateB_iff.1 ha
  by_cases hL : 0 ≤ mostI n q d an ad ∧ mostI n q d an ad < n
  · obtain ⟨h1, h2⟩ := hL
    have hh : holdsB n (mostI n q d an ad) q d an ad = true := by
      unfold mostI at h1 ⊢
      exact most_holds _ _ h1
    obtain ⟨_, _, _, hlo⟩ := holds_iff.1 hh
    have hL : ∀ w, learnB (digsI d w n) q d an ad = true := fun w => by
      unfold learnB
      rw [digsI_len]
      simp; omega
    have hb : ∀ w, badB n q d an ad w = decide (tops d (d - q) w n < (mostI n q d an ad).toNat + 1) := fun w => by
      unfold badB
      rw [hL w, Bool.true_and, Bool.eq_iff_iff, decide_eq_true_eq, decide_eq_true_eq]
      unfold learnI
      rw [if_pos (hL w), ← digsI_tops, ← low_iff _ _ _ (by rw [digsI_len]; omega)]
      rw [digsI_len, show ((d - q : Nat) : Int) = (d : Int) - q by omega]
    have he : sumF (fun w => if badB n q d an ad w then 1 else 0) (d ^ n) = lo q (d - q) n ((mostI n q d an ad).toNat + 1) := by
      have hs := samples_lo (d := d) (b := d - q) (by omega) hd n ((mostI n q d an ad).toNat + 1)
      rw [show d - (d - q) = q by omega] at hs
      rw [← hs]
      refine sumF_congr fun w _ => ?_
      rw [hb w]
      simp
    rw [he]
    rw [show ((q : Int).toNat) = q by omega, show ((d : Int) - q).toNat = d - q by omega, show ((n : Int).toNat) = n by omega, show ((d : Int).toNat) = d by omega] at hlo
    generalize lo q (d - q) n _ = L at hlo ⊢
    have e1 : ad = (ad.toNat : Int) := by omega
    have e2 : an = (an.toNat : Int) := by omega
    rw [e1, e2]
    exact_mod_cast hlo
  · have hz : ∀ w, badB n q d an ad w = false := fun w => by
      unfold badB learnB
      rw [digsI_len]
      have : (decide (0 ≤ mostI n q d an ad) && decide (mostI n q d an ad < n)) = false := by
        simp only [Bool.and_eq_false_iff, decide_eq_false_iff_not]; omega
      rw [this]; simp
    have : ∀ m, sumF (fun w => if badB n q d an ad w then 1 else 0) m = 0 := fun m => by
      induction m with
      | zero => rfl
      | succ m ih => rw [sumF, ih, hz]; rfl
    rw [this]
    simp only [Int.natCast_zero, Int.zero_mul]
    exact Int.mul_nonneg (by omega) a3
def pw (d i : Nat) : Nat := d ^ i
theorem pw_zero (d : Nat) : pw d 0 = 1 := rfl
theorem pw_succ (d i : Nat) : pw d (i + 1) = pw d i * d := by unfold pw; exact Nat.pow_succ _ _
def dv (w d j : Nat) : Nat := w / d ^ j
theorem dv_zero (w d : Nat) : dv w d 0 = w := Nat.div_one w
theorem dv_succ (w d j : Nat) : dv w d (j + 1) = dv w d j / d := by unfold dv; rw [Nat.pow_succ, Nat.div_div_eq_div_mul]
theorem dv_le (w d j : Nat) : dv w d j ≤ w := Nat.div_le_self _ _
def badN (n : Nat) (q d : Nat) (an ad : Int) (w : Nat) : Nat := sumF (fun w => if badB n q d an ad w then 1 else 0) w
theorem badN_zero {n q d : Nat} {an ad : Int} : badN n q d an ad 0 = 0 := rfl
theorem badN_succ {n q d : Nat} {an ad : Int} (w : Nat) : badN n q d an ad (w + 1) = badN n q d an ad w + if badB n q d an ad w then 1 else 0 := rfl
theorem badN_le {n q d : Nat} {an ad : Int} : ∀ w, badN n q d an ad w ≤ w
  | 0 => Nat.le_refl _
  | w + 1 => by have := badN_le (n := n) (q := q) (d := d) (an := an) (ad := ad) w; rw [badN_succ]; split <;> omega

theorem p11 (n0 q0 d0 a0 b0 : Int) : PD Try.prog 11 [.int .i64 n0, .int .i64 q0, .int .i64 d0, .agg [.int .i64 a0, .int .i64 b0]] (.d (.bool true)) := by
  have h19 := p19
  have h20 := p20 n0 6 (by decide) (by decide)
  have h21 := p21 d0 4 (by decide) (by decide)
  have h22 := p22 a0 b0
  have hr := made_rate a0 b0
  generalize madeN a0 b0 = an at h22 hr
  generalize madeD b0 = ad at h22 hr
  obtain ⟨n, hn⟩ : ∃ n : Nat, modI n0 6 = n := ⟨(modI n0 6).toNat, by have := modI_bounds (n := n0) (m := 6) (by decide); omega⟩
  obtain ⟨d, hd⟩ : ∃ d : Nat, modI d0 4 + 1 = d := ⟨(modI d0 4 + 1).toNat, by have := modI_bounds (n := d0) (m := 4) (by decide); omega⟩
  have hn5 : n < 6 := by have := modI_bounds (n := n0) (m := 6) (by decide); omega
  have hd0 : 0 < d ∧ d ≤ 4 := by have := modI_bounds (n := d0) (m := 4) (by decide); omega
  have hd1 : modI d0 4 = (d : Int) - 1 := by omega
  rw [hn] at h20
  rw [hd1] at h21
  have h21b := p21 q0 (d + 1) (by omega) (by omega)
  obtain ⟨q, hq⟩ : ∃ q : Nat, modI q0 (d + 1) = q := ⟨(modI q0 (d + 1)).toNat, by have := modI_bounds (n := q0) (m := (d : Int) + 1) (by omega); omega⟩
  have hq1 : q ≤ d := by have := modI_bounds (n := q0) (m := (d : Int) + 1) (by omega); omega
  rw [hq] at h21b
  have h24 := p24 q d
  have hlaw := sample_law (n := n) (q := q) (d := d) (an := an) (ad := ad) (by omega) hq1 hd0.1 (by omega) hr
  obtain ⟨r1, r2, r3, r4⟩ := rateB_iff.1 hr
  have w1 : 1 + ((d : Int) - 1) = (d : Int) := by omega
  have w2 : IntKind.i64.wrap ((d : Int) + 1) = (d : Int) + 1 := wrapI _ (by omega)
  have hpow : ∀ i, i ≤ n → 1 ≤ pw d i ∧ pw d i ≤ 1024 := fun i hi => by
    unfold pw
    refine ⟨Nat.one_le_pow _ _ hd0.1, ?_⟩
    have h1 : d ^ i ≤ 4 ^ i := Nat.pow_le_pow_left hd0.2 i
    have h2 : (4 : Nat) ^ i ≤ 4 ^ 5 := Nat.pow_le_pow_right (by decide) (by omega)
    omega
  refine pd_of (fn := Try.f11) [.tmp 8] (by kernel_rfl) rfl (by kernel_rfl) (Nat.le_of_ble_eq_true rfl) (by kernel_rfl) rfl rfl ?_
  refine awp_seq ?_
  refine awpF_region ?_; intro K hK; simp only [push_cast, seval]; (try simp (disch := omega) only [wrapI]); (repeat ((with_reducible refine And.intro ?_ ?_); (focus (first | omega | trivial | assumption | (intro _ hrow; obtain ⟨_, _, rfl⟩ := List.mem_map.1 hrow; rfl) | ((intros; repeat' apply And.intro) <;> first | omega | trivial | assumption | (intro _ hrow; obtain ⟨_, _, rfl⟩ := List.mem_map.1 hrow; rfl) | (simp_all; done) | (simp_all; omega)))))); refine hK _ ?_; clear hK; clear K
  refine awp_seq ?_
  refine awpF_region ?_; intro K hK; simp only [push_cast, seval]
  refine CallK.pd (h20) ?_; simp only [push_cast, seval]; (try simp (disch := omega) only [wrapI]); (repeat ((with_reducible refine And.intro ?_ ?_); (focus (first | omega | trivial | assumption | (intro _ hrow; obtain ⟨_, _, rfl⟩ := List.mem_map.1 hrow; rfl) | ((intros; repeat' apply And.intro) <;> first | omega | trivial | assumption | (intro _ hrow; obtain ⟨_, _, rfl⟩ := List.mem_map.1 hrow; rfl) | (simp_all; done) | (simp_all; omega))))))
  refine CallK.pd (h21) ?_; simp only [push_cast, seval]; (try simp (disch := omega) only [wrapI]); (repeat ((with_reducible refine And.intro ?_ ?_); (focus (first | omega | trivial | assumption | (intro _ hrow; obtain ⟨_, _, rfl⟩ := List.mem_map.1 hrow; rfl) | ((intros; repeat' apply And.intro) <;> first | omega | trivial | assumption | (intro _ hrow; obtain ⟨_, _, rfl⟩ := List.mem_map.1 hrow; rfl) | (simp_all; done) | (simp_all; omega))))))
  simp only [w1]
  refine hK _ ?_; clear hK; clear K
  refine awp_seq ?_
  refine awpF_region ?_; intro K hK; simp only [push_cast, seval, w2]
  refine CallK.pd (h21b) ?_; simp only [push_cast, seval]; (try simp (disch := omega) only [wrapI]); (repeat ((with_reducible refine And.intro ?_ ?_); (focus (first | omega | trivial | assumption | (intro _ hrow; obtain ⟨_, _, rfl⟩ := List.mem_map.1 hrow; rfl) | ((intros; repeat' apply And.intro) <;> first | omega | trivial | assumption | (intro _ hrow; obtain ⟨_, _, rfl⟩ := List.mem_map.1 hrow; rfl) | (simp_all; done) | (simp_all; omega))))))
  refine hK _ ?_; clear hK; clear K
  refine awp_seq ?_
  refine awpF_region ?_; intro K hK; simp only [push_cast, seval]
  refine CallK.pd (h22) ?_; simp only [push_cast, seval]; (try simp (disch := omega) only [wrapI]); (repeat ((with_reducible refine And.intro ?_ ?_); (focus (first | omega | trivial | assumption | (intro _ hrow; obtain ⟨_, _, rfl⟩ := List.mem_map.1 hrow; rfl) | ((intros; repeat' apply And.intro) <;> first | omega | trivial | assumption | (intro _ hrow; obtain ⟨_, _, rfl⟩ := List.mem_map.1 hrow; rfl) | (simp_all; done) | (simp_all; omega))))))
  refine hK _ ?_; clear hK; clear K
  refine awp_seq ?_
  refine awpF_region ?_; intro K hK; simp only [push_cast, seval]; (try simp (disch := omega) only [wrapI]); (repeat ((with_reducible refine And.intro ?_ ?_); (focus (first | omega | trivial | assumption | (intro _ hrow; obtain ⟨_, _, rfl⟩ := List.mem_map.1 hrow; rfl) | ((intros; repeat' apply And.intro) <;> first | omega | trivial | assumption | (intro _ hrow; obtain ⟨_, _, rfl⟩ := List.mem_map.1 hrow; rfl) | (simp_all; done) | (simp_all; omega)))))); refine hK _ ?_; clear hK; clear K
  refine awp_seq ?_
  refine awp_seq ?_
  refine awpF_region ?_; intro K hK; simp only [push_cast, seval]; (try simp (disch := omega) only [wrapI]); (repeat ((with_reducible refine And.intro ?_ ?_); (focus (first | omega | trivial | assumption | (intro _ hrow; obtain ⟨_, _, rfl⟩ := List.mem_map.1 hrow; rfl) | ((intros; repeat' apply And.intro) <;> first | omega | trivial | assumption | (intro _ hrow; obtain ⟨_, _, rfl⟩ := List.mem_map.1 hrow; rfl) | (simp_all; done) | (simp_all; omega)))))); refine hK _ ?_; clear hK; clear K
  refine awp_block ?_
  refine awp_loopP (α := Nat) (st := fun i => ⟨[(0, .d (.int .i64 n)), (1, .d (.int .i64 q)), (2, .d (.int .i64 d)), (9, .ptr 0 0 0), (10, .d (.int .i64 ((pw d i : Nat) : Int))), (11, .d (.int .i64 0)), (12, .d (.int .i64 i))], [.cells [.d (.int .i64 an), .d (.int .i64 ad)]]⟩) (inv := fun i => i ≤ n) (μ := fun i => n - i) (x0 := 0) (r0 := [1]) ?_ ?_ ?_
  · exact Nat.zero_le _
  · rw [pw_zero]
    exact ⟨by simp, by simp, by simp [push_cast, seval], by simp [push_cast, seval], by simp [push_cast, seval], by simp [push_cast, seval]⟩
  intro i hi
  refine awp_seq ?_
  refine awp_seq ?_
  refine awpF_region ?_; intro K hK; simp only [push_cast, seval]; (try simp (disch := omega) only [wrapI]); (repeat ((with_reducible refine And.intro ?_ ?_); (focus (first | omega | trivial | assumption | (intro _ hrow; obtain ⟨_, _, rfl⟩ := List.mem_map.1 hrow; rfl) | ((intros; repeat' apply And.intro) <;> first | omega | trivial | assumption | (intro _ hrow; obtain ⟨_, _, rfl⟩ := List.mem_map.1 hrow; rfl) | (simp_all; done) | (simp_all; omega)))))); refine hK _ ?_; clear hK; clear K
  apply awp_cond; (focus (simp only [push_cast, seval]; rfl))
  · intro h1; (try simp only [decide_eq_true_eq, decide_eq_false_iff_not, Bool.not_eq_true', Bool.not_eq_false', Bool.and_eq_true, Bool.or_eq_true, Bool.not_eq_true] at h1)
    have hp := hpow (i + 1) (by omega)
    have w3 : IntKind.i64.wrap (((pw d i : Nat) : Int) * d) = ((pw d (i + 1) : Nat) : Int) := by
      have : ((pw d i : Nat) : Int) * d = ((pw d (i + 1) : Nat) : Int) := by rw [pw_succ]; exact (Int.natCast_mul _ _).symm
      rw [this]; exact wrapI _ (by omega)
    refine awp_skip ?_
    refine awp_seq ?_
    refine awp_block ?_
    refine awpF_region ?_; intro K hK; simp only [push_cast, seval, w3]; (try simp (disch := omega) only [wrapI]); (repeat ((with_reducible refine And.intro ?_ ?_); (focus (first | omega | trivial | assumption | (intro _ hrow; obtain ⟨_, _, rfl⟩ := List.mem_map.1 hrow; rfl) | ((intros; repeat' apply And.intro) <;> first | omega | trivial | assumption | (intro _ hrow; obtain ⟨_, _, rfl⟩ := List.mem_map.1 hrow; rfl) | (simp_all; done) | (simp_all; omega)))))); refine hK _ ?_; clear hK; clear K
    refine inblock_norm ?_
    refine awpF_region ?_; intro K hK; simp only [push_cast, seval]; (try simp (disch := omega) only [wrapI]); (repeat ((with_reducible refine And.intro ?_ ?_); (focus (first | omega | trivial | assumption | (intro _ hrow; obtain ⟨_, _, rfl⟩ := List.mem_map.1 hrow; rfl) | ((intros; repeat' apply And.intro) <;> first | omega | trivial | assumption | (intro _ hrow; obtain ⟨_, _, rfl⟩ := List.mem_map.1 hrow; rfl) | (simp_all; done) | (simp_all; omega)))))); refine hK _ ?_; clear hK; clear K
    refine round_endG (i + 1) [0] ⟨by omega, by omega, ?_⟩
    exact ⟨by simp, by simp, by simp [push_cast, seval], by simp [push_cast, seval], by simp [push_cast, seval], by simp [push_cast, seval]⟩
  · intro h1; (try simp only [decide_eq_true_eq, decide_eq_false_iff_not, Bool.not_eq_true', Bool.not_eq_false', Bool.and_eq_true, Bool.or_eq_true, Bool.not_eq_true] at h1)
    refine awp_exit ?_; (repeat (first | refine then_exit ?_ | refine inblock_other (by decide) ?_)); refine inblock_same ?_
    have hi2 : i = n := by omega
    subst hi2
    change (badN i q d an ad (pw d i) : Int) * ad ≤ (pw d i : Int) * an at hlaw
    generalize hA : pw d i = A at hlaw
    have hA1 := hpow i (Nat.le_refl _)
    rw [hA] at hA1
    refine awp_seq ?_
    refine awp_seq ?_
    refine awpF_region ?_; intro K hK; simp only [push_cast, seval]; (try simp (disch := omega) only [wrapI]); (repeat ((with_reducible refine And.intro ?_ ?_); (focus (first | omega | trivial | assumption | (intro _ hrow; obtain ⟨_, _, rfl⟩ := List.mem_map.1 hrow; rfl) | ((intros; repeat' apply And.intro) <;> first | omega | trivial | assumption | (intro _ hrow; obtain ⟨_, _, rfl⟩ := List.mem_map.1 hrow; rfl) | (simp_all; done) | (simp_all; omega)))))); refine hK _ ?_; clear hK; clear K
    refine awp_block ?_
    refine awp_loopP (α := Nat) (st := fun w => ⟨[(0, .d (.int .i64 i)), (1, .d (.int .i64 q)), (2, .d (.int .i64 d)), (9, .ptr 0 0 0), (10, .d (.int .i64 A)), (11, .d (.int .i64 (badN i q d an ad w : Nat))), (13, .d (.int .i64 w))], [.cells [.d (.int .i64 an), .d (.int .i64 ad)]]⟩) (inv := fun w => w ≤ A) (μ := fun w => A - w) (x0 := 0) (r0 := [0]) ?_ ?_ ?_
    · exact Nat.zero_le _
    · rw [badN_zero]
      exact ⟨by simp, by simp, by simp [push_cast, seval], by simp [push_cast, seval], by simp [push_cast, seval], by simp [push_cast, seval]⟩
    intro w hw
    have hs2 := badN_le (n := i) (q := q) (d := d) (an := an) (ad := ad) w
    refine awp_seq ?_
    refine awp_seq ?_
    refine awpF_region ?_; intro K hK; simp only [push_cast, seval]; (try simp (disch := omega) only [wrapI]); (repeat ((with_reducible refine And.intro ?_ ?_); (focus (first | omega | trivial | assumption | (intro _ hrow; obtain ⟨_, _, rfl⟩ := List.mem_map.1 hrow; rfl) | ((intros; repeat' apply And.intro) <;> first | omega | trivial | assumption | (intro _ hrow; obtain ⟨_, _, rfl⟩ := List.mem_map.1 hrow; rfl) | (simp_all; done) | (simp_all; omega)))))); refine hK _ ?_; clear hK; clear K
    apply awp_cond; (focus (simp only [push_cast, seval]; rfl))
    · intro h2; (try simp only [decide_eq_true_eq, decide_eq_false_iff_not, Bool.not_eq_true', Bool.not_eq_false', Bool.and_eq_true, Bool.or_eq_true, Bool.not_eq_true] at h2)
      refine awp_skip ?_
      refine awp_mid (fun u => u = ⟨[(0, .d (.int .i64 i)), (1, .d (.int .i64 q)), (2, .d (.int .i64 d)), (9, .ptr 0 0 0), (10, .d (.int .i64 A)), (11, .d (.int .i64 (badN i q d an ad (w + 1) : Nat))), (13, .d (.int .i64 w))], [.cells [.d (.int .i64 an), .d (.int .i64 ad)]]⟩) ?_ ?_
      · refine awp_block ?_
        refine awp_seq ?_
        refine awpF_region ?_; intro K hK; simp only [push_cast, seval]; (try simp (disch := omega) only [wrapI]); (repeat ((with_reducible refine And.intro ?_ ?_); (focus (first | omega | trivial | assumption | (intro _ hrow; obtain ⟨_, _, rfl⟩ := List.mem_map.1 hrow; rfl) | ((intros; repeat' apply And.intro) <;> first | omega | trivial | assumption | (intro _ hrow; obtain ⟨_, _, rfl⟩ := List.mem_map.1 hrow; rfl) | (simp_all; done) | (simp_all; omega)))))); refine hK _ ?_; clear hK; clear K
        refine awp_seq ?_
        refine awpF_region ?_; intro K hK; simp only [push_cast, seval]; (try simp (disch := omega) only [wrapI]); (repeat ((with_reducible refine And.intro ?_ ?_); (focus (first | omega | trivial | assumption | (intro _ hrow; obtain ⟨_, _, rfl⟩ := List.mem_map.1 hrow; rfl) | ((intros; repeat' apply And.intro) <;> first | omega | trivial | assumption | (intro _ hrow; obtain ⟨_, _, rfl⟩ := List.mem_map.1 hrow; rfl) | (simp_all; done) | (simp_all; omega)))))); refine hK _ ?_; clear hK; clear K
        refine awp_seq ?_
        refine awp_seq ?_
        refine awpF_region ?_; intro K hK; simp only [push_cast, seval]; (try simp (disch := omega) only [wrapI]); (repeat ((with_reducible refine And.intro ?_ ?_); (focus (first | omega | trivial | assumption | (intro _ hrow; obtain ⟨_, _, rfl⟩ := List.mem_map.1 hrow; rfl) | ((intros; repeat' apply And.intro) <;> first | omega | trivial | assumption | (intro _ hrow; obtain ⟨_, _, rfl⟩ := List.mem_map.1 hrow; rfl) | (simp_all; done) | (simp_all; omega)))))); refine hK _ ?_; clear hK; clear K
        refine awp_virt 14 1 (by simp only [push_cast, seval]) ?_
        refine awp_block ?_
        refine awp_loopP (α := Nat) (st := fun j => ⟨[(0, .d (.int .i64 i)), (1, .d (.int .i64 q)), (2, .d (.int .i64 d)), (9, .ptr 0 0 0), (10, .d (.int .i64 A)), (11, .d (.int .i64 (badN i q d an ad w : Nat))), (13, .d (.int .i64 w)), (14, .ref 1 0 (digsI d w j).length), (15, .d (.int .i64 ((dv w d j : Nat) : Int))), (16, .d (.int .i64 j))], [.cells [.d (.int .i64 an), .d (.int .i64 ad)], .data 1 ((digsI d w j).map encI)]⟩) (inv := fun j => j ≤ i) (μ := fun j => i - j) (x0 := 0) (r0 := [0, 1]) ?_ ?_ ?_
        · exact Nat.zero_le _
        · rw [dv_zero]
          simp only [digsI]
          exact ⟨by simp, by simp, by simp [push_cast, seval], by simp [push_cast, seval], by simp [push_cast, seval], by simp [push_cast, seval]⟩
        intro j hj
        have hjl := digsI_len d j w
        have hsn : digsI d w (j + 1) = digsI d w j ++ [((dv w d j % d : Nat) : Int)] := digsI_snoc d j w
        have hwd : dv w d j ≤ 1024 := Nat.le_trans (dv_le _ _ _) (by omega)
        have hdd := dv_succ w d j
        refine awp_seq ?_
        refine awp_seq ?_
        refine awpF_region ?_; intro K hK; simp only [push_cast, seval]; (try simp (disch := omega) only [wrapI]); (repeat ((with_reducible refine And.intro ?_ ?_); (focus (first | omega | trivial | assumption | (intro _ hrow; obtain ⟨_, _, rfl⟩ := List.mem_map.1 hrow; rfl) | ((intros; repeat' apply And.intro) <;> first | omega | trivial | assumption | (intro _ hrow; obtain ⟨_, _, rfl⟩ := List.mem_map.1 hrow; rfl) | (simp_all; done) | (simp_all; omega)))))); refine hK _ ?_; clear hK; clear K
        apply awp_cond; (focus (simp only [push_cast, seval]; rfl))
        · intro h3; (try simp only [decide_eq_true_eq, decide_eq_false_iff_not, Bool.not_eq_true', Bool.not_eq_false', Bool.and_eq_true, Bool.or_eq_true, Bool.not_eq_true] at h3)
          have htk : ((digsI d w j).map encI).take j = (digsI d w j).map encI := List.take_of_length_le (by simp [hjl])
          have hmod : ((dv w d j : Nat) : Int).tmod d = ((dv w d j % d : Nat) : Int) := rfl
          have hdiv : ((dv w d j : Nat) : Int).tdiv d = ((dv w d j / d : Nat) : Int) := rfl
          have hlt : dv w d j / d ≤ 1024 := Nat.le_trans (Nat.div_le_self _ _) hwd
          generalize dv w d j / d = y at hdd hdiv hlt
          generalize dv w d j % d = x at hsn hmod
          generalize dv w d j = z at hmod hdiv hwd ⊢
          refine awp_skip ?_
          refine awp_seq ?_
          refine awp_block ?_
          refine awp_seq ?_
          refine awpF_region ?_; intro K hK; simp only [push_cast, seval, hmod, hjl, htk]; (try simp (disch := omega) only [wrapI]); (repeat ((with_reducible refine And.intro ?_ ?_); (focus (first | omega | trivial | assumption | (intro _ hrow; obtain ⟨_, _, rfl⟩ := List.mem_map.1 hrow; rfl) | ((intros; repeat' apply And.intro) <;> first | omega | trivial | assumption | (intro _ hrow; obtain ⟨_, _, rfl⟩ := List.mem_map.1 hrow; rfl) | (simp_all; done) | (simp_all; omega)))))); refine hK _ ?_; clear hK; clear K
          refine awpF_region ?_; intro K hK; simp only [push_cast, seval, hdiv]; (try simp (disch := omega) only [wrapI]); (repeat ((with_reducible refine And.intro ?_ ?_); (focus (first | omega | trivial | assumption | (intro _ hrow; obtain ⟨_, _, rfl⟩ := List.mem_map.1 hrow; rfl) | ((intros; repeat' apply And.intro) <;> first | omega | trivial | assumption | (intro _ hrow; obtain ⟨_, _, rfl⟩ := List.mem_map.1 hrow; rfl) | (simp_all; done) | (simp_all; omega)))))); refine hK _ ?_; clear hK; clear K
          refine inblock_norm ?_
          refine awpF_region ?_; intro K hK; simp only [push_cast, seval]; (try simp (disch := omega) only [wrapI]); (repeat ((with_reducible refine And.intro ?_ ?_); (focus (first | omega | trivial | assumption | (intro _ hrow; obtain ⟨_, _, rfl⟩ := List.mem_map.1 hrow; rfl) | ((intros; repeat' apply And.intro) <;> first | omega | trivial | assumption | (intro _ hrow; obtain ⟨_, _, rfl⟩ := List.mem_map.1 hrow; rfl) | (simp_all; done) | (simp_all; omega)))))); refine hK _ ?_; clear hK; clear K
          refine round_endG (j + 1) [0, 1] ⟨by omega, by omega, ?_⟩
          rw [hsn, hdd]
          simp only [List.map_append, List.length_append, hjl, List.map_cons, List.map_nil, encI, List.length_cons, List.length_nil]
          exact ⟨by simp, by simp, by simp [push_cast, seval], by simp [push_cast, seval], by simp [push_cast, seval], by simp [push_cast, seval]⟩
        · intro h3; (try simp only [decide_eq_true_eq, decide_eq_false_iff_not, Bool.not_eq_true', Bool.not_eq_false', Bool.and_eq_true, Bool.or_eq_true, Bool.not_eq_true] at h3)
          refine awp_exit ?_; (repeat (first | refine then_exit ?_ | refine inblock_other (by decide) ?_)); refine inblock_same ?_
          have hji : j = i := by omega
          subst hji
          have hL : (digsI d w j).length ≤ 1000000 := by rw [hjl]; omega
          have h36 := p36 (digsI d w j) q d an ad hL
          have htk : ((digsI d w j).map encI).take j = (digsI d w j).map encI := List.take_of_length_le (by simp [hjl])
          have hbs := badN_succ (n := j) (q := q) (d := d) (an := an) (ad := ad) w
          unfold badB at hbs
          generalize learnI (digsI d w j) q d an ad = v at h36 hbs
          generalize learnB (digsI d w j) q d an ad = b at h36 hbs
          refine awp_seq ?_
          refine awpF_draw [0,1,2,4,3,5,6,7,8,9,10] (by kernel_rfl) (by kernel_rfl) rfl ?_; intro K hK; simp only [push_cast, seval, hjl, htk]
          refine CallK.pd (h24) ?_; simp only [push_cast, seval]; (try simp (disch := omega) only [wrapI]); (repeat ((with_reducible refine And.intro ?_ ?_); (focus (first | omega | trivial | assumption | (intro _ hrow; obtain ⟨_, _, rfl⟩ := List.mem_map.1 hrow; rfl) | ((intros; repeat' apply And.intro) <;> first | omega | trivial | assumption | (intro _ hrow; obtain ⟨_, _, rfl⟩ := List.mem_map.1 hrow; rfl) | (simp_all; done) | (simp_all; omega))))))
          simp only [push_cast, seval, hjl, htk]
          refine CallK.pd (h36) ?_; simp only [push_cast, seval]; (try simp (disch := omega) only [wrapI]); (repeat ((with_reducible refine And.intro ?_ ?_); (focus (first | omega | trivial | assumption | (intro _ hrow; obtain ⟨_, _, rfl⟩ := List.mem_map.1 hrow; rfl) | ((intros; repeat' apply And.intro) <;> first | omega | trivial | assumption | (intro _ hrow; obtain ⟨_, _, rfl⟩ := List.mem_map.1 hrow; rfl) | (simp_all; done) | (simp_all; omega))))))
          refine hK _ ?_; clear hK; clear K
          have w5 : IntKind.i64.wrap ((d : Int) - q) = (d : Int) - q := wrapI _ (by omega)
          have w6 : IntKind.i64.wrap ((badN j q d an ad w : Int) + 1) = ((badN j q d an ad w + 1 : Nat) : Int) := by rw [wrapI _ (by omega)]; rfl
          refine awp_seq ?_
          refine awpF_region ?_; intro K hK; simp only [push_cast, seval, w5, bif_and]; (try simp (disch := omega) only [wrapI]); (repeat ((with_reducible refine And.intro ?_ ?_); (focus (first | omega | trivial | assumption | (intro _ hrow; obtain ⟨_, _, rfl⟩ := List.mem_map.1 hrow; rfl) | ((intros; repeat' apply And.intro) <;> first | omega | trivial | assumption | (intro _ hrow; obtain ⟨_, _, rfl⟩ := List.mem_map.1 hrow; rfl) | (simp_all; done) | (simp_all; omega)))))); refine hK _ ?_; clear hK; clear K
          apply awp_cond; (focus (simp only [push_cast, seval]; rfl))
          · intro hx
            rw [Bool.and_eq_true, decide_eq_true_eq] at hx
            rw [if_pos (by rw [hx.1, Bool.true_and]; exact decide_eq_true hx.2)] at hbs
            refine awpF_region ?_; intro K hK; simp only [push_cast, seval, w6]; (try simp (disch := omega) only [wrapI]); (repeat ((with_reducible refine And.intro ?_ ?_); (focus (first | omega | trivial | assumption | (intro _ hrow; obtain ⟨_, _, rfl⟩ := List.mem_map.1 hrow; rfl) | ((intros; repeat' apply And.intro) <;> first | omega | trivial | assumption | (intro _ hrow; obtain ⟨_, _, rfl⟩ := List.mem_map.1 hrow; rfl) | (simp_all; done) | (simp_all; omega)))))); refine hK _ ?_; clear hK; clear K
            refine inblock_norm (mid_end [0] _ rfl ?_)
            rw [hbs]
            exact ⟨by simp, by simp, by simp [push_cast, seval], by simp [push_cast, seval], by simp [push_cast, seval], by simp [push_cast, seval]⟩
          · intro hx
            have hx2 : (b && decide (v < (d : Int) - q)) = false := hx
            rw [hx2] at hbs
            simp only [Bool.false_eq_true, if_false, Nat.add_zero] at hbs
            refine awp_skip ?_
            refine inblock_norm (mid_end [0] _ rfl ?_)
            rw [hbs]
            exact ⟨by simp, by simp, by simp [push_cast, seval], by simp [push_cast, seval], by simp [push_cast, seval], by simp [push_cast, seval]⟩
      · rintro _ rfl
        refine awpF_region ?_; intro K hK; simp only [push_cast, seval]; (try simp (disch := omega) only [wrapI]); (repeat ((with_reducible refine And.intro ?_ ?_); (focus (first | omega | trivial | assumption | (intro _ hrow; obtain ⟨_, _, rfl⟩ := List.mem_map.1 hrow; rfl) | ((intros; repeat' apply And.intro) <;> first | omega | trivial | assumption | (intro _ hrow; obtain ⟨_, _, rfl⟩ := List.mem_map.1 hrow; rfl) | (simp_all; done) | (simp_all; omega)))))); refine hK _ ?_; clear hK; clear K
        refine round_endG (w + 1) [0] ⟨by omega, by omega, ?_⟩
        exact ⟨by simp, by simp, by simp [push_cast, seval], by simp [push_cast, seval], by simp [push_cast, seval], by simp [push_cast, seval]⟩
    · intro h2; (try simp only [decide_eq_true_eq, decide_eq_false_iff_not, Bool.not_eq_true', Bool.not_eq_false', Bool.and_eq_true, Bool.or_eq_true, Bool.not_eq_true] at h2)
      refine awp_exit ?_; (repeat (first | refine then_exit ?_ | refine inblock_other (by decide) ?_)); refine inblock_same ?_
      have hwA : w = A := by omega
      subst hwA
      have m1 : 0 ≤ (badN i q d an ad w : Int) * ad ∧ (badN i q d an ad w : Int) * ad ≤ 1024 * 1000 := ⟨Int.mul_nonneg (by omega) (by omega), Int.mul_le_mul (by omega) r2 (by omega) (by omega)⟩
      have m2 : 0 ≤ (w : Int) * an ∧ (w : Int) * an ≤ 1024 * 1000 := ⟨Int.mul_nonneg (by omega) r3, Int.mul_le_mul (by omega) (by omega) r3 (by omega)⟩
      have v1 : IntKind.i64.wrap ((badN i q d an ad w : Int) * ad) = (badN i q d an ad w : Int) * ad := wrapI _ (by omega)
      have v2 : IntKind.i64.wrap ((w : Int) * an) = (w : Int) * an := wrapI _ (by omega)
      have v3 : decide ((badN i q d an ad w : Int) * ad ≤ (w : Int) * an) = true := decide_eq_true hlaw
      refine awp_seq ?_
      refine awpF_region ?_; intro K hK; simp only [push_cast, seval, v1, v2, v3, bif_and]
      refine CallK.pg (fun _ => h19) ?_
      simp only [push_cast, seval, v3, bif_and]
      (repeat ((with_reducible refine And.intro ?_ ?_); (focus (first | omega | trivial | assumption | (intro _ hrow; obtain ⟨_, _, rfl⟩ := List.mem_map.1 hrow; rfl) | ((intros; repeat' apply And.intro) <;> first | omega | trivial | assumption | (intro _ hrow; obtain ⟨_, _, rfl⟩ := List.mem_map.1 hrow; rfl) | (simp_all; done) | (simp_all; omega))))))
      refine hK _ ?_; clear hK; clear K
      refine awp_ret ?_; (repeat (first | refine then_ret ?_ | refine inblock_ret ?_)); refine fin_of (by simp only [push_cast, seval]; first | done | rfl) (by first | trivial | first | omega | trivial | assumption | (intro _ hrow; obtain ⟨_, _, rfl⟩ := List.mem_map.1 hrow; rfl) | ((intros; repeat' apply And.intro) <;> first | omega | trivial | assumption | (intro _ hrow; obtain ⟨_, _, rfl⟩ := List.mem_map.1 hrow; rfl) | (simp_all; done) | (simp_all; omega))) ?_
      rfl
end Go.Aw
