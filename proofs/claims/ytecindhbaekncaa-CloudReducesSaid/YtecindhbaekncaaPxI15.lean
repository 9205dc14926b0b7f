/-
  What CloudReduces answers. Conditions: none.
-/
import Derived.Test.YtecindhbaekncaaPxI14
namespace Go.Aw
set_option linter.unusedSimpArgs false
set_option linter.unusedVariables false
open Go.RowKit Go.Proofs Go.Rg

theorem bnd_ex (size : Int) : ∃ x, isBnd size x := by
  by_cases h : size < 1 ∨ size > 16777216
  · exact ⟨0, by rw [isBnd, if_pos h]⟩
  have key : ∀ n : Nat, (∃ m : Nat, m ≤ n ∧ bndN size ≤ (m : Int) * m ∧ ∀ y : Int, 0 ≤ y → y < m → y * y < bndN size) ∨ ∀ y : Int, 0 ≤ y → y ≤ n → y * y < bndN size := by
    intro n
    induction n with
    | zero =>
      by_cases h0 : bndN size ≤ 0
      · exact .inl ⟨0, Nat.le_refl _, by simpa using h0, fun y h1 h2 => by omega⟩
      · refine .inr fun y h1 h2 => ?_
        obtain rfl : y = 0 := by omega
        omega
    | succ n ih =>
      rcases ih with ⟨m, h1, h2, h3⟩ | ih
      · exact .inl ⟨m, by omega, h2, h3⟩
      · by_cases h0 : bndN size ≤ ((n + 1 : Nat) : Int) * ((n + 1 : Nat) : Int)
        · exact .inl ⟨n + 1, Nat.le_refl _, h0, fun y h1 h2 => ih y h1 (by omega)⟩
        · refine .inr fun y h1 h2 => ?_
          rcases Int.lt_or_le y ((n + 1 : Nat) : Int) with h4 | h4
          · exact ih y h1 (by omega)
          · obtain rfl : y = ((n + 1 : Nat) : Int) := by omega
            omega
  rcases key (2 * size).toNat with ⟨m, _, h2, h3⟩ | h1
  · exact ⟨m, by rw [isBnd, if_neg h]; exact ⟨by omega, h2, h3⟩⟩
  · have h2 := h1 (2 * size) (by omega) (by omega)
    have h3 : bndN size ≤ (2 * size) * (2 * size) := by
      unfold bndN
      have h4 := sq_mono (a := size - 1) (b := size) (by omega) (by omega)
      have e1 : 2 * (size - 1) * (size - 1) = 2 * ((size - 1) * (size - 1)) := by rw [Int.mul_assoc]
      have e2 : 2 * size * (2 * size) = 4 * (size * size) := by rw [Int.mul_assoc, ← Int.mul_assoc size 2 size, Int.mul_comm size 2, Int.mul_assoc, ← Int.mul_assoc]; rfl
      have h5 : 0 ≤ size * size := Int.mul_nonneg (by omega) (by omega)
      omega
    omega
theorem redOut_len (ps : List Pt) (size : Int) : (redOut ps size).length ≤ ps.length := by
  unfold redOut
  split
  · exact redS_len ps size
  · exact Nat.zero_le _

theorem p9 (ps : List Pt) (size : Int) : PD Try.prog 9 [.sl (ps.map encP), .int .i64 size] (.d (.bool true)) := by
  have h42 := p42 ps size
  have h43 := p43 ps size
  have hrl := redOut_len ps size
  obtain ⟨b, hb'⟩ := bnd_ex size
  have h44 := p44 size b hb'
  have h45 := p45 size b hb'
  generalize redOut ps size = rs at h42 h43 hrl
  generalize idxErr ps size = e at h42 h43
  refine pd_of (fn := Try.f9) [.tmp 4] (by kernel_rfl) rfl (by kernel_rfl) (Nat.le_of_ble_eq_true rfl) (by kernel_rfl) rfl rfl ?_
  refine awp_seq ?_
  refine awpF_region ?_; intro K hK; simp only [push_cast, seval]; (try simp (disch := omega) only [wrapI]); (repeat ((with_reducible refine And.intro ?_ ?_); (focus (exact ob1)))); refine hK _ ?_; clear hK; clear K
  refine awp_seq ?_
  refine awp_seq ?_
  refine awpF_region ?_; intro K hK; simp only [push_cast, seval]
  (repeat ((with_reducible refine And.intro ?_ ?_); (focus (exact ob1))))
  refine CallK.pd (p14 _ _) ?_; simp only [push_cast, seval]; (try simp (disch := omega) only [wrapI]); (repeat ((with_reducible refine And.intro ?_ ?_); (focus (exact ob1))))
  refine hK _ ?_; clear hK; clear K
  apply awp_cond; (focus (simp only [push_cast, seval]; rfl))
  · intro h1; (try simp only [decide_eq_true_eq, decide_eq_false_iff_not, Bool.not_eq_true', Bool.not_eq_false', Bool.and_eq_true, Bool.or_eq_true, Bool.not_eq_true] at h1)
    refine awp_seq ?_
    refine awpF_region ?_; intro K hK; simp only [push_cast, seval]
    (repeat ((with_reducible refine And.intro ?_ ?_); (focus (exact ob1))))
    refine CallK.pd (p15) ?_; simp only [push_cast, seval]; (try simp (disch := omega) only [wrapI]); (repeat ((with_reducible refine And.intro ?_ ?_); (focus (exact ob1))))
    refine hK _ ?_; clear hK; clear K
    refine awp_ret ?_; (repeat (first | refine then_ret ?_ | refine inblock_ret ?_)); refine fin_of (by simp only [push_cast, seval]; first | done | rfl) ob1 ?_
    rfl
  · intro h1; (try simp only [decide_eq_true_eq, decide_eq_false_iff_not, Bool.not_eq_true', Bool.not_eq_false', Bool.and_eq_true, Bool.or_eq_true, Bool.not_eq_true] at h1)
    have hn : ps.length ≤ 1100 := by omega
    refine awp_skip ?_
    refine awp_seq ?_
    refine awpF_region ?_; intro K hK; simp only [push_cast, seval]
    (repeat ((with_reducible refine And.intro ?_ ?_); (focus (exact ob1))))
    refine CallK.pd (p16 ps (by omega)) ?_; simp only [push_cast, seval, ofD]; (repeat ((with_reducible refine And.intro ?_ ?_); (focus (exact ob1))))
    refine hK _ ?_; clear hK; clear K
    refine awp_seq ?_
    refine awpF_region ?_; intro K hK; simp only [push_cast, seval]
    (repeat ((with_reducible refine And.intro ?_ ?_); (focus (exact ob1))))
    refine CallK.pd (h42) ?_; simp only [push_cast, seval]; (try simp (disch := omega) only [wrapI]); (repeat ((with_reducible refine And.intro ?_ ?_); (focus (exact ob1))))
    refine hK _ ?_; clear hK; clear K
    refine awp_seq ?_
    refine awpF_region ?_; intro K hK; simp only [push_cast, seval]
    (repeat ((with_reducible refine And.intro ?_ ?_); (focus (exact ob1))))
    refine CallK.pd (h43) ?_; simp only [push_cast, seval]; (try simp (disch := omega) only [wrapI]); (repeat ((with_reducible refine And.intro ?_ ?_); (focus (exact ob1))))
    refine hK _ ?_; clear hK; clear K
    refine awp_seq ?_
    refine awpF_region ?_; intro K hK; simp only [push_cast, seval]
    (repeat ((with_reducible refine And.intro ?_ ?_); (focus (exact ob1))))
    refine CallK.pd (p20 rs rs (by omega)) ?_; simp only [push_cast, seval, decide_true, beq_self_eq_true, cond_true, cond_false]; (repeat ((with_reducible refine And.intro ?_ ?_); (focus (exact ob1))))
    refine CallK.pd h44 ?_; simp only [push_cast, seval, beq_self_eq_true, cond_true, cond_false]; (repeat ((with_reducible refine And.intro ?_ ?_); (focus (exact ob1))))
    refine CallK.pd h45 ?_; simp only [push_cast, seval, beq_self_eq_true, cond_true, cond_false]; (repeat ((with_reducible refine And.intro ?_ ?_); (focus (exact ob1))))
    refine CallK.pd (p20 ps ps (by omega)) ?_; simp only [push_cast, seval, decide_true, beq_self_eq_true, cond_true, cond_false]; (repeat ((with_reducible refine And.intro ?_ ?_); (focus (exact ob1))))
    refine CallK.pd p15 ?_; simp only [push_cast, seval, beq_self_eq_true, cond_true, cond_false]; (repeat ((with_reducible refine And.intro ?_ ?_); (focus (exact ob1))))
    refine hK _ ?_; clear hK; clear K
    refine awp_ret ?_; (repeat (first | refine then_ret ?_ | refine inblock_ret ?_)); refine fin_of (by simp only [push_cast, seval]; first | done | rfl) ob1 ?_
    rfl
end Go.Aw
