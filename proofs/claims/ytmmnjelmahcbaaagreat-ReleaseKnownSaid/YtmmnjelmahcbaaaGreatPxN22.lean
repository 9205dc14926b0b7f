/-
  Contracts: the least rate that is shown to hold; the greatest number of failures. No condition.
-/
import Derived.Test.YtmmnjelmahcbaaaGreatPxN21
namespace Go.Aw
set_option linter.unusedSimpArgs false
set_option linter.unusedVariables false
open Go.RowKit Go.Proofs Go.Nt Go.Rl

theorem p69 (num n k den an ad : Int) : PD Tryz.prog 58 [.int .i64 num, .cp [.int .i64 n] 0, .cp [.int .i64 k] 0, .cp [.int .i64 den] 0, .cp [.int .i64 an, .int .i64 ad] 0] (.d (.bool (holdsB n k num den an ad))) := by
  have h23 := p23 n k num den an ad
  refine pd_of (fn := Tryz.f58) [.tmp 6] (by kernel_rfl) rfl (by kernel_rfl) (Nat.le_of_ble_eq_true rfl) (by kernel_rfl) rfl rfl ?_
  refine awp_seq ?_
  refine awpF_region ?_; intro K hK; simp only [push_cast, seval]; (try simp (disch := omega) only [wrapI]); (repeat ((with_reducible refine And.intro ?_ ?_); (focus (exact ob1)))); refine hK _ ?_; clear hK; clear K
  refine awp_seq ?_
  refine awpF_region ?_; intro K hK; simp only [push_cast, seval]
  refine CallK.pd (h23) ?_; simp only [push_cast, seval]; (try simp (disch := omega) only [wrapI]); (repeat ((with_reducible refine And.intro ?_ ?_); (focus (exact ob1))))
  refine hK _ ?_; clear hK; clear K
  refine awp_ret ?_; (repeat (first | refine then_ret ?_ | refine inblock_ret ?_)); refine fin_of (by simp only [push_cast, seval]; first | done | rfl) ob1 ?_
  rfl

theorem p33 (n k an ad den : Int) : PD Tryz.prog 29 [.int .i64 n, .int .i64 k, .agg [.int .i64 an, .int .i64 ad], .int .i64 den] (.d (.int .i64 (upperI n k an ad den))) := by
  have h69 := fun num => p69 num n k den an ad
  refine pd_of (fn := Tryz.f29) [.tmp 8] (by kernel_rfl) rfl (by kernel_rfl) (Nat.le_of_ble_eq_true rfl) (by kernel_rfl) rfl rfl ?_
  refine awp_seq ?_
  refine awpF_region ?_; intro K hK; simp only [push_cast, seval]; (try simp (disch := omega) only [wrapI]); (repeat ((with_reducible refine And.intro ?_ ?_); (focus (exact ob1)))); refine hK _ ?_; clear hK; clear K
  refine awp_seq ?_
  refine awpF_region ?_; intro K hK; simp only [push_cast, seval]; (try simp (disch := omega) only [wrapI]); (repeat ((with_reducible refine And.intro ?_ ?_); (focus (exact ob1)))); refine hK _ ?_; clear hK; clear K
  refine awp_seq ?_
  refine awp_seq ?_
  refine awpF_region ?_; intro K hK; simp only [push_cast, seval]
  refine ⟨by simp, ?_⟩
  refine CallK.pg (fun _ => h69 den) ?_; simp only [push_cast, seval]; (try simp (disch := omega) only [wrapI]); (repeat ((with_reducible refine And.intro ?_ ?_); (focus (exact ob1))))
  refine hK _ ?_; clear hK; clear K
  apply awp_cond; (focus (simp only [push_cast, seval]; rfl))
  · intro h1; (try simp only [decide_eq_true_eq, decide_eq_false_iff_not, Bool.not_eq_true', Bool.not_eq_false', Bool.and_eq_true, Bool.or_eq_true, Bool.not_eq_true] at h1)
    refine awp_seq ?_
    refine awpF_region ?_; intro K hK; simp only [push_cast, seval]; (try simp (disch := omega) only [wrapI]); (repeat ((with_reducible refine And.intro ?_ ?_); (focus (exact ob1)))); refine hK _ ?_; clear hK; clear K
    refine awp_ret ?_; (repeat (first | refine then_ret ?_ | refine inblock_ret ?_)); refine fin_of (by simp only [push_cast, seval]; first | done | rfl) ob1 ?_
    rw [up_eq (u := -1) (.inl ⟨rfl, fun h2 h3 => ?_⟩)]
    simp only [bif_or, Bool.or_eq_true, decide_eq_true_eq, Bool.not_eq_true'] at h1
    rcases h1 with (h1 | h1) | h1
    · omega
    · omega
    · exact h1
  intro h1; (try simp only [decide_eq_true_eq, decide_eq_false_iff_not, Bool.not_eq_true', Bool.not_eq_false', Bool.and_eq_true, Bool.or_eq_true, Bool.not_eq_true] at h1)
  simp only [bif_or, Bool.or_eq_false_iff, decide_eq_false_iff_not, Bool.not_eq_false'] at h1
  obtain ⟨⟨d1, d2⟩, d3⟩ := h1
  refine awp_skip ?_
  refine awp_seq ?_
  refine awpF_draw [0,1,2] (by kernel_rfl) (by kernel_rfl) rfl ?_; intro K hK; simp only [push_cast, seval]
  (repeat ((with_reducible refine And.intro ?_ ?_); (focus (exact ob1))))
  refine hK _ ?_; clear hK; clear K
  refine awp_seq ?_
  refine awp_block ?_
  refine awp_loopP (st := fun (x : Int × Int) => ⟨[(9, .fn (.func 58) [.d (.cp [.int .i64 n] 0), .d (.cp [.int .i64 k] 0), .d (.cp [.int .i64 den] 0), .d (.cp [.int .i64 an, .int .i64 ad] 0)]), (10, .d (.int .i64 x.1)), (11, .d (.int .i64 x.2))], []⟩)
    (inv := fun x => -1 ≤ x.1 ∧ x.1 < x.2 ∧ x.2 ≤ den ∧ holdsB n k x.2 den an ad = true ∧ (0 ≤ x.1 → holdsB n k x.1 den an ad = false)) (μ := fun x => (x.2 - x.1).toNat) (x0 := (-1, den)) (r0 := []) ?_ ?_ ?_
  · exact ⟨Int.le_refl _, by show (-1 : Int) < den; omega, Int.le_refl _, d3, fun h => by simp only at h; omega⟩
  · exact ⟨by simp, by simp, by simp [push_cast, seval], by simp [push_cast, seval], by simp [push_cast, seval], by simp [push_cast, seval]⟩
  rintro ⟨low, high⟩ ⟨i1, i2, i3, i4, i5⟩
  dsimp only at i1 i2 i3 i4 i5
  have w1 : IntKind.i64.wrap (high - low) = high - low := wrapI _ (by omega)
  have w2 : IntKind.i64.wrap (low + high) = low + high := wrapI _ (by omega)
  refine awp_seq ?_
  refine awp_seq ?_
  refine awpF_region ?_; intro K hK; simp only [push_cast, seval, w1]; (try simp (disch := omega) only [wrapI]); (repeat ((with_reducible refine And.intro ?_ ?_); (focus (exact ob1)))); refine hK _ ?_; clear hK; clear K
  apply awp_cond; (focus (simp only [push_cast, seval]; rfl))
  · intro h2; (try simp only [decide_eq_true_eq, decide_eq_false_iff_not, Bool.not_eq_true', Bool.not_eq_false', Bool.and_eq_true, Bool.or_eq_true, Bool.not_eq_true] at h2)
    obtain ⟨mid, hm⟩ : ∃ m : Int, (low + high).tdiv 2 = m := ⟨_, rfl⟩
    have hm2 : low < mid ∧ mid < high := by rw [Int.tdiv_eq_ediv_of_nonneg (by omega)] at hm; omega
    have w3 : IntKind.i64.wrap mid = mid := wrapI _ (by omega)
    refine awp_skip ?_
    refine awp_block ?_
    refine awp_seq ?_
    refine awpF_region ?_; intro K hK; simp only [push_cast, seval, w2, hm, w3]; (try simp (disch := omega) only [wrapI]); (repeat ((with_reducible refine And.intro ?_ ?_); (focus (exact ob1)))); refine hK _ ?_; clear hK; clear K
    refine awp_seq ?_
    refine awpF_region ?_; intro K hK; simp only [push_cast, seval]
    refine CallK.pd (h69 mid) ?_; simp only [push_cast, seval]; (try simp (disch := omega) only [wrapI]); (repeat ((with_reducible refine And.intro ?_ ?_); (focus (exact ob1))))
    refine hK _ ?_; clear hK; clear K
    apply awp_cond; (focus (simp only [push_cast, seval]; rfl))
    · intro h3; (try simp only [decide_eq_true_eq, decide_eq_false_iff_not, Bool.not_eq_true', Bool.not_eq_false', Bool.and_eq_true, Bool.or_eq_true, Bool.not_eq_true] at h3)
      refine awpF_region ?_; intro K hK; simp only [push_cast, seval]; (try simp (disch := omega) only [wrapI]); (repeat ((with_reducible refine And.intro ?_ ?_); (focus (exact ob1)))); refine hK _ ?_; clear hK; clear K
      refine inblock_norm ?_
      refine round_endG (low, mid) [] ⟨by show (mid - low).toNat < (high - low).toNat; omega, ⟨i1, hm2.1, by show mid ≤ den; omega, h3, i5⟩, ?_⟩
      exact ⟨by simp, by simp, by simp [push_cast, seval], by simp [push_cast, seval], by simp [push_cast, seval], by simp [push_cast, seval]⟩
    · intro h3; (try simp only [decide_eq_true_eq, decide_eq_false_iff_not, Bool.not_eq_true', Bool.not_eq_false', Bool.and_eq_true, Bool.or_eq_true, Bool.not_eq_true] at h3)
      refine awpF_region ?_; intro K hK; simp only [push_cast, seval]; (try simp (disch := omega) only [wrapI]); (repeat ((with_reducible refine And.intro ?_ ?_); (focus (exact ob1)))); refine hK _ ?_; clear hK; clear K
      refine inblock_norm ?_
      refine round_endG (mid, high) [] ⟨by show (high - mid).toNat < (high - low).toNat; omega, ⟨by show -1 ≤ mid; omega, hm2.2, i3, i4, fun _ => h3⟩, ?_⟩
      exact ⟨by simp, by simp, by simp [push_cast, seval], by simp [push_cast, seval], by simp [push_cast, seval], by simp [push_cast, seval]⟩
  · intro h2; (try simp only [decide_eq_true_eq, decide_eq_false_iff_not, Bool.not_eq_true', Bool.not_eq_false', Bool.and_eq_true, Bool.or_eq_true, Bool.not_eq_true] at h2)
    refine awp_exit ?_; (repeat (first | refine then_exit ?_ | refine inblock_other (by decide) ?_)); refine inblock_same ?_
    refine awp_seq ?_
    refine awpF_region ?_; intro K hK; simp only [push_cast, seval]; (try simp (disch := omega) only [wrapI]); (repeat ((with_reducible refine And.intro ?_ ?_); (focus (exact ob1)))); refine hK _ ?_; clear hK; clear K
    refine awp_ret ?_; (repeat (first | refine then_ret ?_ | refine inblock_ret ?_)); refine fin_of (by simp only [push_cast, seval]; first | done | rfl) ob1 ?_
    rw [up_eq (u := high) (.inr ⟨by omega, by omega, by omega, i3, i4, fun h => ?_⟩)]
    have : high - 1 = low := by omega
    rw [this]
    exact i5 (by omega)

theorem p29 (n rn rd an ad : Int) (hn : -9223372036854775808 ≤ n) : PD Tryz.prog 27 [.int .i64 n, .agg [.int .i64 rn, .int .i64 rd], .agg [.int .i64 an, .int .i64 ad]] (.d (.int .i64 (mostI n rn rd an ad))) := by
  have h23 := fun k => p23 n k rn rd an ad
  refine pd_of (fn := Tryz.f27) [.tmp 6] (by kernel_rfl) rfl (by kernel_rfl) (Nat.le_of_ble_eq_true rfl) (by kernel_rfl) rfl rfl ?_
  refine awp_seq ?_
  refine awpF_region ?_; intro K hK; simp only [push_cast, seval]; (try simp (disch := omega) only [wrapI]); (repeat ((with_reducible refine And.intro ?_ ?_); (focus (exact ob1)))); refine hK _ ?_; clear hK; clear K
  refine awp_seq ?_
  refine awpF_region ?_; intro K hK; simp only [push_cast, seval]; (try simp (disch := omega) only [wrapI]); (repeat ((with_reducible refine And.intro ?_ ?_); (focus (exact ob1)))); refine hK _ ?_; clear hK; clear K
  refine awp_seq ?_
  refine awp_block ?_
  refine awp_loopP (st := fun (k : Int) => ⟨[(0, .d (.int .i64 n)), (4, .ptr 0 0 0), (5, .ptr 1 0 0), (7, .d (.int .i64 k))], [.cells [.d (.int .i64 rn), .d (.int .i64 rd)], .cells [.d (.int .i64 an), .d (.int .i64 ad)]]⟩)
    (inv := fun k => k ≤ 60 ∧ (0 ≤ k + 1 → mostF (fun k => holdsB n k rn rd an ad) (k + 1).toNat = mostI n rn rd an ad) ∧ (k + 1 < 0 → n = k)) (μ := fun k => (k + 1).toNat) (x0 := min n 60) (r0 := [0, 1]) ?_ ?_ ?_
  · exact ⟨by omega, fun _ => rfl, fun h => by omega⟩
  · exact ⟨by simp, by simp, by simp [push_cast, seval], by simp [push_cast, seval], by simp [push_cast, seval], by simp [push_cast, seval]⟩
  rintro k ⟨i1, i2, i3⟩
  refine awp_seq ?_
  refine awp_seq ?_
  refine awpF_region ?_; intro K hK; simp only [push_cast, seval]
  refine CallK.pg (fun _ => h23 k) ?_; simp only [push_cast, seval]; (try simp (disch := omega) only [wrapI]); (repeat ((with_reducible refine And.intro ?_ ?_); (focus (exact ob1))))
  refine hK _ ?_; clear hK; clear K
  apply awp_cond; (focus (simp only [push_cast, seval]; rfl))
  · intro h1; (try simp only [decide_eq_true_eq, decide_eq_false_iff_not, Bool.not_eq_true', Bool.not_eq_false', Bool.and_eq_true, Bool.or_eq_true, Bool.not_eq_true] at h1)
    simp only [bif_and, Bool.and_eq_true, decide_eq_true_eq, Bool.not_eq_true'] at h1
    obtain ⟨k0, hk⟩ := h1
    have w1 : IntKind.i64.wrap (k - 1) = k - 1 := wrapI _ (by omega)
    refine awp_skip ?_
    refine awp_block ?_
    refine awpF_region ?_; intro K hK; simp only [push_cast, seval, w1]; (try simp (disch := omega) only [wrapI]); (repeat ((with_reducible refine And.intro ?_ ?_); (focus (exact ob1)))); refine hK _ ?_; clear hK; clear K
    refine inblock_norm ?_
    refine round_endG (k - 1) [0, 1] ⟨by omega, ⟨by omega, fun _ => ?_, fun h => by omega⟩, ?_⟩
    · rw [← i2 (by omega), show (k + 1).toNat = k.toNat + 1 by omega, show (k - 1 + 1).toNat = k.toNat by omega]
      conv => rhs; unfold mostF
      rw [if_neg]
      rw [show ((k.toNat : Nat) : Int) = k by omega, hk]
      decide
    · exact ⟨by simp, by simp, by simp [push_cast, seval], by simp [push_cast, seval], by simp [push_cast, seval], by simp [push_cast, seval]⟩
  · intro h1; (try simp only [decide_eq_true_eq, decide_eq_false_iff_not, Bool.not_eq_true', Bool.not_eq_false', Bool.and_eq_true, Bool.or_eq_true, Bool.not_eq_true] at h1)
    refine awp_exit ?_; (repeat (first | refine then_exit ?_ | refine inblock_other (by decide) ?_)); refine inblock_same ?_
    refine awp_seq ?_
    refine awpF_region ?_; intro K hK; simp only [push_cast, seval]; (try simp (disch := omega) only [wrapI]); (repeat ((with_reducible refine And.intro ?_ ?_); (focus (exact ob1)))); refine hK _ ?_; clear hK; clear K
    refine awp_ret ?_; (repeat (first | refine then_ret ?_ | refine inblock_ret ?_)); refine fin_of (by simp only [push_cast, seval]; first | done | rfl) ob1 ?_
    simp only [bif_and, Bool.and_eq_false_iff, decide_eq_false_iff_not, Bool.not_eq_false'] at h1
    have : mostI n rn rd an ad = max k (-1) := by
      rcases h1 with h1 | h1
      · rcases (by omega : k + 1 < 0 ∨ 0 ≤ k + 1) with h2 | h2
        · have := i3 h2
          unfold mostI
          rw [show (min n 60 + 1).toNat = 0 by omega]
          simp only [mostF]
          omega
        · rw [← i2 h2, show (k + 1).toNat = 0 by omega]
          simp only [mostF]
          omega
      · rcases (by omega : k < 0 ∨ 0 ≤ k) with h2 | h2
        · exfalso
          have := (fairB_iff.1 (holds_iff.1 h1).2.2.1).1
          omega
        · rw [← i2 (by omega), show (k + 1).toNat = k.toNat + 1 by omega]
          unfold mostF
          rw [if_pos]
          · omega
          · rw [show ((k.toNat : Nat) : Int) = k by omega]; exact h1
    rw [this]
end Go.Aw
