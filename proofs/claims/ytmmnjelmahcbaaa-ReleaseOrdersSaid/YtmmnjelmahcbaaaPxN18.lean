/-
  The statement about the error of an acceptance over all results. No condition.
-/
import Derived.Test.YtmmnjelmahcbaaaPkG
namespace Go.Aw
set_option linter.unusedSimpArgs false
set_option linter.unusedVariables false
open Go.RowKit Go.Proofs Go.Nt Go.Rl

theorem weight_le {t u d : Nat} (h : t + u = d) (w : Nat) : ∀ n, weight t u w n ≤ d ^ n
  | 0 => Nat.le_refl _
  | n + 1 => by
    rw [weight, Nat.pow_succ]
    exact Nat.mul_le_mul (weight_le h w n) (by split <;> omega)
theorem pow_small {d n : Nat} (hd : d ≤ 12) (hn : n ≤ 6) : d ^ n ≤ 2985984 :=
  calc d ^ n ≤ 12 ^ n := Nat.pow_le_pow_left hd n
    _ ≤ 12 ^ 6 := Nat.pow_le_pow_right (by decide) hn
    _ = 2985984 := by decide
theorem two_small {n : Nat} (hn : n ≤ 6) : 2 ^ n ≤ 64 := Nat.pow_le_pow_right (by decide) hn
theorem sumF_const_le {f : Nat → Nat} {c : Nat} (h : ∀ i, f i ≤ c) : ∀ m, sumF f m ≤ m * c
  | 0 => Nat.zero_le _
  | m + 1 => by rw [sumF, Nat.succ_mul]; have := sumF_const_le h m; have := h m; omega

theorem i64and1 (n : Int) : bits .and .i64 n 1 = n % 2 := by
  have h1 : (BitVec.ofInt 64 1).toNat = 2 ^ 1 - 1 := by decide
  have key : (BitVec.ofInt 64 n &&& BitVec.ofInt 64 1).toNat = (n % ((2 ^ 64 : Nat) : Int)).toNat % 2 ^ 1 := by
    rw [BitVec.toNat_and, BitVec.toNat_ofInt, h1, Nat.and_two_pow_sub_one_eq_mod]
  show IntKind.i64.wrap ((BitVec.ofInt 64 n &&& BitVec.ofInt 64 1).toNat : Nat) = n % 2
  rw [key, IntKind.wrap_i64]
  omega
theorem bit_eq (w i : Nat) : (bits .and .i64 ((w : Int) / 2 ^ i) 1 == 1) = bit w i := by
  rw [i64and1]
  unfold bit
  have e : (w : Int) / 2 ^ i = ((w / 2 ^ i : Nat) : Int) := by simp
  rw [e]
  generalize w / 2 ^ i = q
  rw [Bool.eq_iff_iff]
  simp only [beq_iff_eq]
  omega

theorem p4 (n num more den a b : Int) : PD Try.prog 4 [.int .i64 n, .int .i64 num, .int .i64 more, .int .i64 den, .agg [.int .i64 a, .int .i64 b]] (.d (.bool true)) := by
  have b1 := modI_bounds (n := n) (m := 7) (by decide)
  have b2 := modI_bounds (n := den) (m := 12) (by decide)
  obtain ⟨N, hN⟩ : ∃ x : Nat, modI n 7 = x := ⟨(modI n 7).toNat, by omega⟩
  obtain ⟨d, hd⟩ : ∃ x : Nat, 1 + modI den 12 = x := ⟨(1 + modI den 12).toNat, by omega⟩
  have b3 := modI_bounds (n := num) (m := (d : Int) + 1) (by omega)
  obtain ⟨p, hp⟩ : ∃ x : Nat, modI num ((d : Int) + 1) = x := ⟨(modI num ((d : Int) + 1)).toNat, by omega⟩
  have b4 := modI_bounds (n := more) (m := (d : Int) - p + 1) (by omega)
  obtain ⟨t, ht⟩ : ∃ x : Nat, (p : Int) + modI more ((d : Int) - p + 1) = x := ⟨((p : Int) + modI more ((d : Int) - p + 1)).toNat, by omega⟩
  have h20 := p20 n 7 (by decide) (by decide)
  have h21a := p21 den 12 (by decide) (by decide)
  have h21b := p21 num ((d : Int) + 1) (by omega) (by omega)
  have h21c := p21 more ((d : Int) - p + 1) (by omega) (by omega)
  have w1 : IntKind.i64.wrap (1 + modI den 12) = (d : Int) := (wrapI _ (by omega)).trans hd
  have w2 : IntKind.i64.wrap ((d : Int) + 1) = (d : Int) + 1 := wrapI _ (by omega)
  have w3 : IntKind.i64.wrap ((d : Int) - p) = (d : Int) - p := wrapI _ (by omega)
  have w4 : IntKind.i64.wrap ((d : Int) - p + 1) = (d : Int) - p + 1 := wrapI _ (by omega)
  have w5 : IntKind.i64.wrap ((p : Int) + modI more ((d : Int) - p + 1)) = (t : Int) := (wrapI _ (by omega)).trans ht
  rw [hN] at h20
  rw [hp] at h21b
  have hr := made_rate a b
  have h22 := p22 a b
  have hN6 : N ≤ 6 := by omega
  have hd12 : d ≤ 12 := by omega
  have hd0 : 1 ≤ d := by omega
  have hpd : p ≤ d := by omega
  have hpt : p ≤ t := by omega
  have htd : t ≤ d := by omega
  generalize modI more ((d : Int) - p + 1) = z at h21c w5
  generalize modI den 12 = z2 at h21a w1
  clear b1 b2 b3 b4 hN hd hp ht
  generalize madeN a b = an at h22 hr ⊢
  generalize madeD b = ad at h22 hr ⊢
  obtain ⟨r1, r2, r3, r4⟩ := rateB_iff.1 hr
  refine pd_of (fn := Try.f4) [.tmp 10] (by kernel_rfl) rfl (by kernel_rfl) (Nat.le_of_ble_eq_true rfl) (by kernel_rfl) rfl rfl ?_
  refine awp_seq ?_
  refine awpF_region ?_; intro K hK; simp only [push_cast, seval]; (try simp (disch := omega) only [wrapI]); (repeat ((with_reducible refine And.intro ?_ ?_); (focus (first | omega | trivial | assumption | (intro _ hrow; obtain ⟨_, _, rfl⟩ := List.mem_map.1 hrow; rfl) | ((intros; repeat' apply And.intro) <;> first | omega | trivial | assumption | (intro _ hrow; obtain ⟨_, _, rfl⟩ := List.mem_map.1 hrow; rfl) | (simp_all; done) | (simp_all; omega)))))); refine hK _ ?_; clear hK; clear K
  refine awp_seq ?_
  refine awpF_region ?_; intro K hK; simp only [push_cast, seval]
  refine CallK.pd (h20) ?_; simp only [push_cast, seval]; (try simp (disch := omega) only [wrapI]); (repeat ((with_reducible refine And.intro ?_ ?_); (focus (first | omega | trivial | assumption | (intro _ hrow; obtain ⟨_, _, rfl⟩ := List.mem_map.1 hrow; rfl) | ((intros; repeat' apply And.intro) <;> first | omega | trivial | assumption | (intro _ hrow; obtain ⟨_, _, rfl⟩ := List.mem_map.1 hrow; rfl) | (simp_all; done) | (simp_all; omega))))))
  refine CallK.pd (h21a) ?_; simp only [push_cast, seval]; (try simp (disch := omega) only [wrapI]); (repeat ((with_reducible refine And.intro ?_ ?_); (focus (first | omega | trivial | assumption | (intro _ hrow; obtain ⟨_, _, rfl⟩ := List.mem_map.1 hrow; rfl) | ((intros; repeat' apply And.intro) <;> first | omega | trivial | assumption | (intro _ hrow; obtain ⟨_, _, rfl⟩ := List.mem_map.1 hrow; rfl) | (simp_all; done) | (simp_all; omega))))))
  simp only [push_cast, seval, w1]
  refine hK _ ?_; clear hK; clear K
  refine awp_seq ?_
  refine awpF_region ?_; intro K hK; simp only [push_cast, seval, w2]
  refine CallK.pd (h21b) ?_; simp only [push_cast, seval]; (try simp (disch := omega) only [wrapI]); (repeat ((with_reducible refine And.intro ?_ ?_); (focus (first | omega | trivial | assumption | (intro _ hrow; obtain ⟨_, _, rfl⟩ := List.mem_map.1 hrow; rfl) | ((intros; repeat' apply And.intro) <;> first | omega | trivial | assumption | (intro _ hrow; obtain ⟨_, _, rfl⟩ := List.mem_map.1 hrow; rfl) | (simp_all; done) | (simp_all; omega))))))
  refine hK _ ?_; clear hK; clear K
  refine awp_seq ?_
  refine awpF_region ?_; intro K hK; simp only [push_cast, seval, w3, w4]
  refine CallK.pd h21c ?_
  simp only [push_cast, seval, w5]
  refine hK _ ?_; clear hK; clear K
  refine awp_seq ?_
  refine awpF_region ?_; intro K hK; simp only [push_cast, seval]
  refine CallK.pd (h22) ?_; simp only [push_cast, seval]; (try simp (disch := omega) only [wrapI]); (repeat ((with_reducible refine And.intro ?_ ?_); (focus (first | omega | trivial | assumption | (intro _ hrow; obtain ⟨_, _, rfl⟩ := List.mem_map.1 hrow; rfl) | ((intros; repeat' apply And.intro) <;> first | omega | trivial | assumption | (intro _ hrow; obtain ⟨_, _, rfl⟩ := List.mem_map.1 hrow; rfl) | (simp_all; done) | (simp_all; omega))))))
  refine hK _ ?_; clear hK; clear K
  refine awp_seq ?_
  refine awpF_region ?_; intro K hK; simp only [push_cast, seval]; (try simp (disch := omega) only [wrapI]); (repeat ((with_reducible refine And.intro ?_ ?_); (focus (first | omega | trivial | assumption | (intro _ hrow; obtain ⟨_, _, rfl⟩ := List.mem_map.1 hrow; rfl) | ((intros; repeat' apply And.intro) <;> first | omega | trivial | assumption | (intro _ hrow; obtain ⟨_, _, rfl⟩ := List.mem_map.1 hrow; rfl) | (simp_all; done) | (simp_all; omega)))))); refine hK _ ?_; clear hK; clear K
  refine awp_seq ?_
  refine awp_seq ?_
  refine awpF_region ?_; intro K hK; simp only [push_cast, seval]; (try simp (disch := omega) only [wrapI]); (repeat ((with_reducible refine And.intro ?_ ?_); (focus (first | omega | trivial | assumption | (intro _ hrow; obtain ⟨_, _, rfl⟩ := List.mem_map.1 hrow; rfl) | ((intros; repeat' apply And.intro) <;> first | omega | trivial | assumption | (intro _ hrow; obtain ⟨_, _, rfl⟩ := List.mem_map.1 hrow; rfl) | (simp_all; done) | (simp_all; omega)))))); refine hK _ ?_; clear hK; clear K
  refine awp_block ?_
  obtain ⟨pw, hpw⟩ : ∃ f : Nat → Nat, f = fun i => d ^ i := ⟨_, rfl⟩
  have pw0 : pw 0 = 1 := by rw [hpw]; rfl
  have pws : ∀ i, pw (i + 1) = pw i * d := fun i => by rw [hpw]; exact Nat.pow_succ d i
  have pwb : ∀ i, i ≤ 6 → pw i ≤ 2985984 := fun i hi => by rw [hpw]; exact pow_small hd12 hi
  refine awp_loopP (st := fun (i : Nat) => ⟨[(0, .d (.int .i64 N)), (1, .d (.int .i64 p)), (3, .d (.int .i64 d)), (11, .d (.int .i64 t)), (12, .ptr 0 0 0), (13, .d (.int .i64 0)), (14, .d (.int .i64 (pw i))), (15, .d (.int .i64 i))], [.cells [.d (.int .i64 an), .d (.int .i64 ad)]]⟩)
    (inv := fun i => i ≤ N) (μ := fun i => N - i) (x0 := 0) (r0 := [1]) ?_ ?_ ?_
  · exact Nat.zero_le _
  · rw [pw0]; exact ⟨by simp, by simp, by simp [push_cast, seval], by simp [push_cast, seval], by simp [push_cast, seval], by simp [push_cast, seval]⟩
  intro i hi
  refine awp_seq ?_
  refine awp_seq ?_
  refine awpF_region ?_; intro K hK; simp only [push_cast, seval]; (try simp (disch := omega) only [wrapI]); (repeat ((with_reducible refine And.intro ?_ ?_); (focus (first | omega | trivial | assumption | (intro _ hrow; obtain ⟨_, _, rfl⟩ := List.mem_map.1 hrow; rfl) | ((intros; repeat' apply And.intro) <;> first | omega | trivial | assumption | (intro _ hrow; obtain ⟨_, _, rfl⟩ := List.mem_map.1 hrow; rfl) | (simp_all; done) | (simp_all; omega)))))); refine hK _ ?_; clear hK; clear K
  apply awp_cond; (focus (simp only [push_cast, seval]; rfl))
  · intro h1; (try simp only [decide_eq_true_eq, decide_eq_false_iff_not, Bool.not_eq_true', Bool.not_eq_false', Bool.and_eq_true, Bool.or_eq_true, Bool.not_eq_true] at h1)
    have hb := pwb i (by omega)
    have hb2 : pw i * d ≤ 2985984 * 12 := Nat.mul_le_mul hb hd12
    have hm : IntKind.i64.wrap ((pw i : Int) * d) = (pw (i + 1) : Int) := by
      rw [pws, ← Int.natCast_mul]; exact wrapI _ (by omega)
    have hwi : IntKind.i64.wrap ((i : Int) + 1) = (i : Int) + 1 := wrapI _ (by omega)
    refine awp_skip ?_
    refine awp_seq ?_
    refine awp_block ?_
    refine awpF_region ?_; intro K hK; simp only [push_cast, seval, hm]; (try simp (disch := omega) only [wrapI]); (repeat ((with_reducible refine And.intro ?_ ?_); (focus (first | omega | trivial | assumption | (intro _ hrow; obtain ⟨_, _, rfl⟩ := List.mem_map.1 hrow; rfl) | ((intros; repeat' apply And.intro) <;> first | omega | trivial | assumption | (intro _ hrow; obtain ⟨_, _, rfl⟩ := List.mem_map.1 hrow; rfl) | (simp_all; done) | (simp_all; omega)))))); refine hK _ ?_; clear hK; clear K
    refine inblock_norm ?_
    refine awpF_region ?_; intro K hK; simp only [push_cast, seval, hwi]; (try simp (disch := omega) only [wrapI]); (repeat ((with_reducible refine And.intro ?_ ?_); (focus (first | omega | trivial | assumption | (intro _ hrow; obtain ⟨_, _, rfl⟩ := List.mem_map.1 hrow; rfl) | ((intros; repeat' apply And.intro) <;> first | omega | trivial | assumption | (intro _ hrow; obtain ⟨_, _, rfl⟩ := List.mem_map.1 hrow; rfl) | (simp_all; done) | (simp_all; omega)))))); refine hK _ ?_; clear hK; clear K
    refine round_end (y := i + 1) (r := [0]) (by omega) (by omega) ?_
    exact ⟨by simp, by simp, by simp [push_cast, seval], by simp [push_cast, seval], by simp [push_cast, seval], by simp [push_cast, seval]⟩
  · intro h1; (try simp only [decide_eq_true_eq, decide_eq_false_iff_not, Bool.not_eq_true', Bool.not_eq_false', Bool.and_eq_true, Bool.or_eq_true, Bool.not_eq_true] at h1)
    obtain rfl : i = N := by omega
    refine awp_exit ?_; (repeat (first | refine then_exit ?_ | refine inblock_other (by decide) ?_)); refine inblock_same ?_
    refine awp_seq ?_
    refine awp_seq ?_
    refine awpF_region ?_; intro K hK; simp only [push_cast, seval]; (try simp (disch := omega) only [wrapI]); (repeat ((with_reducible refine And.intro ?_ ?_); (focus (first | omega | trivial | assumption | (intro _ hrow; obtain ⟨_, _, rfl⟩ := List.mem_map.1 hrow; rfl) | ((intros; repeat' apply And.intro) <;> first | omega | trivial | assumption | (intro _ hrow; obtain ⟨_, _, rfl⟩ := List.mem_map.1 hrow; rfl) | (simp_all; done) | (simp_all; omega)))))); refine hK _ ?_; clear hK; clear K
    refine awp_block ?_
    obtain ⟨tw, htw⟩ : ∃ x : Nat, x = 2 ^ i := ⟨_, rfl⟩
    have htw64 : tw ≤ 64 := by rw [htw]; exact two_small hN6
    have hsh : IntKind.i64.wrap (1 * (2 : Int) ^ i) = (tw : Int) := by
      rw [Int.one_mul, show (2 : Int) ^ i = ((tw : Nat) : Int) by rw [htw]; simp]; exact wrapI _ (by omega)
    have hcu : IntKind.u64.wrap (i : Int) = i := uwn i (by omega)
    have hbits : (i : Int) ≤ ((IntKind.i64.bits : Nat) : Int) := by show (i : Int) ≤ ((64 : Nat) : Int); omega
    obtain ⟨fl, hfl⟩ : ∃ f : Nat → Nat → Nat, f = fails := ⟨_, rfl⟩
    obtain ⟨wg, hwg⟩ : ∃ f : Nat → Nat → Nat, f = weight t (d - t) := ⟨_, rfl⟩
    have fl0 : ∀ w, fl w 0 = 0 := fun w => by rw [hfl]; rfl
    have wg0 : ∀ w, wg w 0 = 1 := fun w => by rw [hwg]; rfl
    have fl1 : ∀ w q, bit w q = true → fl w (q + 1) = fl w q + 1 := fun w q h => by rw [hfl]; simp only [fails]; rw [if_pos h]
    have fl2 : ∀ w q, bit w q = false → fl w (q + 1) = fl w q := fun w q h => by rw [hfl]; simp only [fails]; rw [if_neg (by rw [h]; decide)]; rfl
    have wg1 : ∀ w q, bit w q = true → wg w (q + 1) = wg w q * t := fun w q h => by rw [hwg]; simp only [weight]; rw [if_pos h]
    have wg2 : ∀ w q, bit w q = false → wg w (q + 1) = wg w q * (d - t) := fun w q h => by rw [hwg]; simp only [weight]; rw [if_neg (by rw [h]; decide)]
    have wgb : ∀ w q, q ≤ 6 → wg w q ≤ 2985984 := fun w q h => by rw [hwg]; exact Nat.le_trans (weight_le (by omega) w q) (pow_small hd12 h)
    have flb : ∀ w q, fl w q ≤ q := fun w q => by rw [hfl]; exact fails_le w q
    obtain ⟨sm, hsm⟩ : ∃ f : Nat → Nat, f = sumF (fun w => if holdsB i (fails w i) p d an ad then weight t (d - t) w i else 0) := ⟨_, rfl⟩
    have sm0 : sm 0 = 0 := by rw [hsm]; rfl
    have sm1 : ∀ w, holdsB i (fl w i) p d an ad = true → sm (w + 1) = sm w + wg w i := fun w h => by rw [hsm, hwg]; rw [hfl] at h; simp only [sumF]; rw [if_pos h]
    have sm2 : ∀ w, holdsB i (fl w i) p d an ad = false → sm (w + 1) = sm w := fun w h => by rw [hsm]; rw [hfl] at h; simp only [sumF]; rw [if_neg (by rw [h]; decide)]; rfl
    have smb : ∀ w, w ≤ 64 → sm w ≤ 64 * 2985984 := fun w hw => by
      rw [hsm]
      refine Nat.le_trans (sumF_const_le (c := 2985984) (fun v => ?_) w) (Nat.mul_le_mul_right _ hw)
      split
      · exact Nat.le_trans (weight_le (by omega) v i) (pow_small hd12 hN6)
      · exact Nat.zero_le _
    have fin : sm tw * ad.toNat ≤ pw i * an.toNat := by
      rw [hsm, htw, hpw]
      refine words_holds (h := fun k => holdsB i k p d an ad) (p := p) (q := d - p) (d := d) (fun k hk => ?_) (by omega) (by omega) hpt (by omega)
      have hrr : rateB (p : Int) (d : Int) = true := by rw [rateB_iff]; omega
      have hff : fairB (i : Int) (k : Int) = true := by rw [fairB_iff]; omega
      simp only [holdsB, hrr, hr, hff, Bool.true_and, decide_eq_true_eq, Int.toNat_natCast]
      rw [show ((d : Int) - p).toNat = d - p by omega]
    refine awp_loopP (st := fun (w : Nat) => ⟨[(0, .d (.int .i64 i)), (1, .d (.int .i64 p)), (3, .d (.int .i64 d)), (11, .d (.int .i64 t)), (12, .ptr 0 0 0), (13, .d (.int .i64 (sm w))), (14, .d (.int .i64 (pw i))), (16, .d (.int .i64 w))], [.cells [.d (.int .i64 an), .d (.int .i64 ad)]]⟩)
      (inv := fun w => w ≤ tw) (μ := fun w => tw - w) (x0 := 0) (r0 := [0]) ?_ ?_ ?_
    · exact Nat.zero_le _
    · rw [sm0]; exact ⟨by simp, by simp, by simp [push_cast, seval], by simp [push_cast, seval], by simp [push_cast, seval], by simp [push_cast, seval]⟩
    intro w hw
    refine awp_seq ?_
    refine awp_seq ?_
    refine awpF_region ?_; intro K hK; simp only [push_cast, seval, hcu, hsh, Int.toNat_natCast]; (try simp (disch := omega) only [wrapI]); (repeat ((with_reducible refine And.intro ?_ ?_); (focus (first | omega | trivial | assumption | (intro _ hrow; obtain ⟨_, _, rfl⟩ := List.mem_map.1 hrow; rfl) | ((intros; repeat' apply And.intro) <;> first | omega | trivial | assumption | (intro _ hrow; obtain ⟨_, _, rfl⟩ := List.mem_map.1 hrow; rfl) | (simp_all; done) | (simp_all; omega)))))); refine hK _ ?_; clear hK; clear K
    apply awp_cond; (focus (simp only [push_cast, seval]; rfl))
    · intro h2; (try simp only [decide_eq_true_eq, decide_eq_false_iff_not, Bool.not_eq_true', Bool.not_eq_false', Bool.and_eq_true, Bool.or_eq_true, Bool.not_eq_true] at h2)
      refine awp_skip ?_
      refine awp_seq ?_
      refine awp_block ?_
      refine awp_seq ?_
      refine awpF_region ?_; intro K hK; simp only [push_cast, seval]; (try simp (disch := omega) only [wrapI]); (repeat ((with_reducible refine And.intro ?_ ?_); (focus (first | omega | trivial | assumption | (intro _ hrow; obtain ⟨_, _, rfl⟩ := List.mem_map.1 hrow; rfl) | ((intros; repeat' apply And.intro) <;> first | omega | trivial | assumption | (intro _ hrow; obtain ⟨_, _, rfl⟩ := List.mem_map.1 hrow; rfl) | (simp_all; done) | (simp_all; omega)))))); refine hK _ ?_; clear hK; clear K
      refine awp_seq ?_
      refine awp_seq ?_
      refine awpF_region ?_; intro K hK; simp only [push_cast, seval]; (try simp (disch := omega) only [wrapI]); (repeat ((with_reducible refine And.intro ?_ ?_); (focus (first | omega | trivial | assumption | (intro _ hrow; obtain ⟨_, _, rfl⟩ := List.mem_map.1 hrow; rfl) | ((intros; repeat' apply And.intro) <;> first | omega | trivial | assumption | (intro _ hrow; obtain ⟨_, _, rfl⟩ := List.mem_map.1 hrow; rfl) | (simp_all; done) | (simp_all; omega)))))); refine hK _ ?_; clear hK; clear K
      refine awp_block ?_
      refine awp_loopP (st := fun (q : Nat) => ⟨[(0, .d (.int .i64 i)), (1, .d (.int .i64 p)), (3, .d (.int .i64 d)), (11, .d (.int .i64 t)), (12, .ptr 0 0 0), (13, .d (.int .i64 (sm w))), (14, .d (.int .i64 (pw i))), (16, .d (.int .i64 w)), (17, .d (.int .i64 (fl w q))), (18, .d (.int .i64 (wg w q))), (19, .d (.int .i64 q))], [.cells [.d (.int .i64 an), .d (.int .i64 ad)]]⟩)
        (inv := fun q => q ≤ i) (μ := fun q => i - q) (x0 := 0) (r0 := [0]) ?_ ?_ ?_
      · exact Nat.zero_le _
      · rw [fl0, wg0]; exact ⟨by simp, by simp, by simp [push_cast, seval], by simp [push_cast, seval], by simp [push_cast, seval], by simp [push_cast, seval]⟩
      intro q hq
      refine awp_seq ?_
      refine awp_seq ?_
      refine awpF_region ?_; intro K hK; simp only [push_cast, seval]; (try simp (disch := omega) only [wrapI]); (repeat ((with_reducible refine And.intro ?_ ?_); (focus (first | omega | trivial | assumption | (intro _ hrow; obtain ⟨_, _, rfl⟩ := List.mem_map.1 hrow; rfl) | ((intros; repeat' apply And.intro) <;> first | omega | trivial | assumption | (intro _ hrow; obtain ⟨_, _, rfl⟩ := List.mem_map.1 hrow; rfl) | (simp_all; done) | (simp_all; omega)))))); refine hK _ ?_; clear hK; clear K
      apply awp_cond; (focus (simp only [push_cast, seval]; rfl))
      · intro h3; (try simp only [decide_eq_true_eq, decide_eq_false_iff_not, Bool.not_eq_true', Bool.not_eq_false', Bool.and_eq_true, Bool.or_eq_true, Bool.not_eq_true] at h3)
        have hqu : IntKind.u64.wrap (q : Int) = q := uwn q (by omega)
        have hqb : (q : Int) ≤ ((IntKind.i64.bits : Nat) : Int) := by show (q : Int) ≤ ((64 : Nat) : Int); omega
        have hwq : IntKind.i64.wrap ((q : Int) + 1) = (q : Int) + 1 := wrapI _ (by omega)
        have gb := wgb w q (by omega)
        have fb := flb w q
        have m1 : wg w q * t ≤ 2985984 * 12 := Nat.mul_le_mul gb (by omega)
        have m2 : wg w q * (d - t) ≤ 2985984 * 12 := Nat.mul_le_mul gb (by omega)
        refine awp_skip ?_
        refine awp_seq ?_
        refine awp_block ?_
        refine awp_seq ?_
        refine awpF_region ?_; intro K hK; simp only [push_cast, seval, hqu, bit_eq, Int.toNat_natCast]; (try simp (disch := omega) only [wrapI]); (repeat ((with_reducible refine And.intro ?_ ?_); (focus (first | omega | trivial | assumption | (intro _ hrow; obtain ⟨_, _, rfl⟩ := List.mem_map.1 hrow; rfl) | ((intros; repeat' apply And.intro) <;> first | omega | trivial | assumption | (intro _ hrow; obtain ⟨_, _, rfl⟩ := List.mem_map.1 hrow; rfl) | (simp_all; done) | (simp_all; omega)))))); refine hK _ ?_; clear hK; clear K
        apply awp_cond; (focus (simp only [push_cast, seval]; rfl))
        · intro h4; (try simp only [decide_eq_true_eq, decide_eq_false_iff_not, Bool.not_eq_true', Bool.not_eq_false', Bool.and_eq_true, Bool.or_eq_true, Bool.not_eq_true] at h4)
          have e1 := fl1 w q h4
          have e2 := wg1 w q h4
          have hf : IntKind.i64.wrap ((fl w q : Int) + 1) = (fl w (q + 1) : Int) := by rw [e1]; exact (wrapI _ (by omega)).trans (by simp)
          have hg : IntKind.i64.wrap ((wg w q : Int) * t) = (wg w (q + 1) : Int) := by rw [e2, ← Int.natCast_mul]; exact wrapI _ (by omega)
          refine awp_seq ?_
          refine awpF_region ?_; intro K hK; simp only [push_cast, seval, hf]; (try simp (disch := omega) only [wrapI]); (repeat ((with_reducible refine And.intro ?_ ?_); (focus (first | omega | trivial | assumption | (intro _ hrow; obtain ⟨_, _, rfl⟩ := List.mem_map.1 hrow; rfl) | ((intros; repeat' apply And.intro) <;> first | omega | trivial | assumption | (intro _ hrow; obtain ⟨_, _, rfl⟩ := List.mem_map.1 hrow; rfl) | (simp_all; done) | (simp_all; omega)))))); refine hK _ ?_; clear hK; clear K
          refine awpF_region ?_; intro K hK; simp only [push_cast, seval, hg]; (try simp (disch := omega) only [wrapI]); (repeat ((with_reducible refine And.intro ?_ ?_); (focus (first | omega | trivial | assumption | (intro _ hrow; obtain ⟨_, _, rfl⟩ := List.mem_map.1 hrow; rfl) | ((intros; repeat' apply And.intro) <;> first | omega | trivial | assumption | (intro _ hrow; obtain ⟨_, _, rfl⟩ := List.mem_map.1 hrow; rfl) | (simp_all; done) | (simp_all; omega)))))); refine hK _ ?_; clear hK; clear K
          refine inblock_norm ?_
          refine awpF_region ?_; intro K hK; simp only [push_cast, seval, hwq]; (try simp (disch := omega) only [wrapI]); (repeat ((with_reducible refine And.intro ?_ ?_); (focus (first | omega | trivial | assumption | (intro _ hrow; obtain ⟨_, _, rfl⟩ := List.mem_map.1 hrow; rfl) | ((intros; repeat' apply And.intro) <;> first | omega | trivial | assumption | (intro _ hrow; obtain ⟨_, _, rfl⟩ := List.mem_map.1 hrow; rfl) | (simp_all; done) | (simp_all; omega)))))); refine hK _ ?_; clear hK; clear K
          refine round_end (y := q + 1) (r := [0]) (by omega) (by omega) ?_
          exact ⟨by simp, by simp, by simp [push_cast, seval], by simp [push_cast, seval], by simp [push_cast, seval], by simp [push_cast, seval]⟩
        · intro h4; (try simp only [decide_eq_true_eq, decide_eq_false_iff_not, Bool.not_eq_true', Bool.not_eq_false', Bool.and_eq_true, Bool.or_eq_true, Bool.not_eq_true] at h4)
          have e1 := fl2 w q h4
          have e2 := wg2 w q h4
          have hdt : IntKind.i64.wrap ((d : Int) - t) = ((d - t : Nat) : Int) := (wrapI _ (by omega)).trans (by omega)
          obtain ⟨u, hu⟩ : ∃ u : Nat, d - t = u := ⟨_, rfl⟩
          rw [hu] at hdt e2 m2
          have hg : IntKind.i64.wrap ((wg w q : Int) * u) = (wg w (q + 1) : Int) := by rw [e2, ← Int.natCast_mul]; exact wrapI _ (by omega)
          refine awpF_region ?_; intro K hK; simp only [push_cast, seval, hdt, hg]; (try simp (disch := omega) only [wrapI]); (repeat ((with_reducible refine And.intro ?_ ?_); (focus (first | omega | trivial | assumption | (intro _ hrow; obtain ⟨_, _, rfl⟩ := List.mem_map.1 hrow; rfl) | ((intros; repeat' apply And.intro) <;> first | omega | trivial | assumption | (intro _ hrow; obtain ⟨_, _, rfl⟩ := List.mem_map.1 hrow; rfl) | (simp_all; done) | (simp_all; omega)))))); refine hK _ ?_; clear hK; clear K
          refine inblock_norm ?_
          refine awpF_region ?_; intro K hK; simp only [push_cast, seval, hwq]; (try simp (disch := omega) only [wrapI]); (repeat ((with_reducible refine And.intro ?_ ?_); (focus (first | omega | trivial | assumption | (intro _ hrow; obtain ⟨_, _, rfl⟩ := List.mem_map.1 hrow; rfl) | ((intros; repeat' apply And.intro) <;> first | omega | trivial | assumption | (intro _ hrow; obtain ⟨_, _, rfl⟩ := List.mem_map.1 hrow; rfl) | (simp_all; done) | (simp_all; omega)))))); refine hK _ ?_; clear hK; clear K
          refine round_end (y := q + 1) (r := [0]) (by omega) (by omega) ?_
          rw [e1]
          exact ⟨by simp, by simp, by simp [push_cast, seval], by simp [push_cast, seval], by simp [push_cast, seval], by simp [push_cast, seval]⟩
      · intro h3; (try simp only [decide_eq_true_eq, decide_eq_false_iff_not, Bool.not_eq_true', Bool.not_eq_false', Bool.and_eq_true, Bool.or_eq_true, Bool.not_eq_true] at h3)
        obtain rfl : q = i := by omega
        have hww : IntKind.i64.wrap ((w : Int) + 1) = (w : Int) + 1 := wrapI _ (by omega)
        refine awp_exit ?_; (repeat (first | refine then_exit ?_ | refine inblock_other (by decide) ?_)); refine inblock_same ?_
        refine awp_seq ?_
        refine awpF_draw [0,1,2,3,5,4,6] (by kernel_rfl) (by kernel_rfl) rfl ?_; intro K hK; simp only [push_cast, seval]
        refine CallK.pd (p24 p d) ?_; simp only [push_cast, seval]; (try simp (disch := omega) only [wrapI]); (repeat ((with_reducible refine And.intro ?_ ?_); (focus (first | omega | trivial | assumption | (intro _ hrow; obtain ⟨_, _, rfl⟩ := List.mem_map.1 hrow; rfl) | ((intros; repeat' apply And.intro) <;> first | omega | trivial | assumption | (intro _ hrow; obtain ⟨_, _, rfl⟩ := List.mem_map.1 hrow; rfl) | (simp_all; done) | (simp_all; omega))))))
        refine CallK.pd (p23 _ _ _ _ _ _) ?_; simp only [push_cast, seval]; (try simp (disch := omega) only [wrapI]); (repeat ((with_reducible refine And.intro ?_ ?_); (focus (first | omega | trivial | assumption | (intro _ hrow; obtain ⟨_, _, rfl⟩ := List.mem_map.1 hrow; rfl) | ((intros; repeat' apply And.intro) <;> first | omega | trivial | assumption | (intro _ hrow; obtain ⟨_, _, rfl⟩ := List.mem_map.1 hrow; rfl) | (simp_all; done) | (simp_all; omega))))))
        refine hK _ ?_; clear hK; clear K
        apply awp_cond; (focus (simp only [push_cast, seval]; rfl))
        · intro h4; (try simp only [decide_eq_true_eq, decide_eq_false_iff_not, Bool.not_eq_true', Bool.not_eq_false', Bool.and_eq_true, Bool.or_eq_true, Bool.not_eq_true] at h4)
          have e1 := sm1 w h4
          have sb := smb w (by omega)
          have gb := wgb w q (by omega)
          have hs : IntKind.i64.wrap ((sm w : Int) + wg w q) = (sm (w + 1) : Int) := by rw [e1]; exact (wrapI _ (by omega)).trans (by simp)
          refine awpF_region ?_; intro K hK; simp only [push_cast, seval, hs]; (try simp (disch := omega) only [wrapI]); (repeat ((with_reducible refine And.intro ?_ ?_); (focus (first | omega | trivial | assumption | (intro _ hrow; obtain ⟨_, _, rfl⟩ := List.mem_map.1 hrow; rfl) | ((intros; repeat' apply And.intro) <;> first | omega | trivial | assumption | (intro _ hrow; obtain ⟨_, _, rfl⟩ := List.mem_map.1 hrow; rfl) | (simp_all; done) | (simp_all; omega)))))); refine hK _ ?_; clear hK; clear K
          refine inblock_norm ?_
          refine awpF_region ?_; intro K hK; simp only [push_cast, seval, hww]; (try simp (disch := omega) only [wrapI]); (repeat ((with_reducible refine And.intro ?_ ?_); (focus (first | omega | trivial | assumption | (intro _ hrow; obtain ⟨_, _, rfl⟩ := List.mem_map.1 hrow; rfl) | ((intros; repeat' apply And.intro) <;> first | omega | trivial | assumption | (intro _ hrow; obtain ⟨_, _, rfl⟩ := List.mem_map.1 hrow; rfl) | (simp_all; done) | (simp_all; omega)))))); refine hK _ ?_; clear hK; clear K
          refine round_end (y := w + 1) (r := [0]) (by omega) (by omega) ?_
          exact ⟨by simp, by simp, by simp [push_cast, seval], by simp [push_cast, seval], by simp [push_cast, seval], by simp [push_cast, seval]⟩
        · intro h4; (try simp only [decide_eq_true_eq, decide_eq_false_iff_not, Bool.not_eq_true', Bool.not_eq_false', Bool.and_eq_true, Bool.or_eq_true, Bool.not_eq_true] at h4)
          have e1 := sm2 w h4
          refine awp_skip ?_
          refine inblock_norm ?_
          refine awpF_region ?_; intro K hK; simp only [push_cast, seval, hww]; (try simp (disch := omega) only [wrapI]); (repeat ((with_reducible refine And.intro ?_ ?_); (focus (first | omega | trivial | assumption | (intro _ hrow; obtain ⟨_, _, rfl⟩ := List.mem_map.1 hrow; rfl) | ((intros; repeat' apply And.intro) <;> first | omega | trivial | assumption | (intro _ hrow; obtain ⟨_, _, rfl⟩ := List.mem_map.1 hrow; rfl) | (simp_all; done) | (simp_all; omega)))))); refine hK _ ?_; clear hK; clear K
          refine round_end (y := w + 1) (r := [0]) (by omega) (by omega) ?_
          rw [e1]
          exact ⟨by simp, by simp, by simp [push_cast, seval], by simp [push_cast, seval], by simp [push_cast, seval], by simp [push_cast, seval]⟩
    · intro h2; (try simp only [decide_eq_true_eq, decide_eq_false_iff_not, Bool.not_eq_true', Bool.not_eq_false', Bool.and_eq_true, Bool.or_eq_true, Bool.not_eq_true] at h2)
      obtain rfl : w = tw := by omega
      obtain ⟨an, rfl⟩ : ∃ x : Nat, an = x := ⟨an.toNat, by omega⟩
      obtain ⟨ad, rfl⟩ : ∃ x : Nat, ad = x := ⟨ad.toNat, by omega⟩
      simp only [Int.toNat_natCast] at fin
      have sb := smb w htw64
      have pb := pwb i hN6
      have k1 : sm w * ad ≤ 64 * 2985984 * 1000 := Nat.mul_le_mul sb (by omega)
      have k2 : pw i * an ≤ 2985984 * 1000 := Nat.mul_le_mul pb (by omega)
      have x1 : IntKind.i64.wrap ((sm w : Int) * ad) = (sm w : Int) * ad := wrapI _ (by rw [← Int.natCast_mul]; omega)
      have x2 : IntKind.i64.wrap ((pw i : Int) * an) = (pw i : Int) * an := wrapI _ (by rw [← Int.natCast_mul]; omega)
      have x3 : ((sm w : Int) * ad ≤ (pw i : Int) * an) = True := eq_true (by rw [← Int.natCast_mul, ← Int.natCast_mul]; omega)
      refine awp_exit ?_; (repeat (first | refine then_exit ?_ | refine inblock_other (by decide) ?_)); refine inblock_same ?_
      refine awp_seq ?_
      refine awpF_region ?_; intro K hK; simp only [push_cast, seval, x1, x2, x3]
      refine CallK.pg (fun _ => p19) ?_; simp only [push_cast, seval]; (try simp (disch := omega) only [wrapI]); (repeat ((with_reducible refine And.intro ?_ ?_); (focus (first | omega | trivial | assumption | (intro _ hrow; obtain ⟨_, _, rfl⟩ := List.mem_map.1 hrow; rfl) | ((intros; repeat' apply And.intro) <;> first | omega | trivial | assumption | (intro _ hrow; obtain ⟨_, _, rfl⟩ := List.mem_map.1 hrow; rfl) | (simp_all; done) | (simp_all; omega))))))
      refine hK _ ?_; clear hK; clear K
      refine awp_ret ?_; (repeat (first | refine then_ret ?_ | refine inblock_ret ?_)); refine fin_of (by simp only [push_cast, seval]; first | done | rfl) (by first | trivial | first | omega | trivial | assumption | (intro _ hrow; obtain ⟨_, _, rfl⟩ := List.mem_map.1 hrow; rfl) | ((intros; repeat' apply And.intro) <;> first | omega | trivial | assumption | (intro _ hrow; obtain ⟨_, _, rfl⟩ := List.mem_map.1 hrow; rfl) | (simp_all; done) | (simp_all; omega))) ?_
      rfl
end Go.Aw
