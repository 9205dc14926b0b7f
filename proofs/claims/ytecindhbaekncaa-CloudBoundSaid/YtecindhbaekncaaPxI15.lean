/-
  What CloudReduces answers. Conditions: none.
-/
import Derived.Test.YtecindhbaekncaaPxI14
namespace Go.Aw
set_option linter.unusedSimpArgs false
set_option linter.unusedVariables false
open Go.RowKit Go.Proofs Go.Rg

theorem bnd_ex (size : Int) : ∃ x, isBnd size x := by
  by_cases h : size < 1 ∨ size > 16777216
  · exact ⟨0, by rw [isBnd, if_pos h]⟩
  have key : ∀ n : Nat, (∃ m : Nat, m ≤ n ∧ bndN size ≤ (m : Int) * m ∧ ∀ y : Int, 0 ≤ y → y < m → y * y < bndN size) ∨ ∀ y : Int, 0 ≤ y → y ≤ n → y * y < bndN size := by
    intro n
    induction n with
    | zero =>
      by_cases h0 : bndN size ≤ 0
      · exact .inl ⟨0, Nat.le_refl _, by simpa using h0, fun y h1 h2 => by omega⟩
      · refine .inr fun y h1 h2 => ?_
        obtain rfl : y = 0 := by omega
        omega
    | succ n ih =>
      rcases ih with ⟨m, h1, h2, h3⟩ | ih
      · exact .inl ⟨m, by omega, h2, h3⟩
      · by_cases h0 : bndN size ≤ ((n + 1 : Nat) : Int) * ((n + 1 : Nat) : Int)
        · exact .inl ⟨n + 1, Nat.le_refl _, h0, fun y h1 h2 => ih y h1 (by omega)⟩
        · refine .inr fun y h1 h2 => ?_
          rcases Int.lt_or_le y ((n + 1 : Nat) : Int) with h4 | h4
          · exact ih y h1 (by omega)
          · obtain rfl : y = ((n + 1 : Nat) : Int) := by omega
            omega
  rcases key (2 * size).toNat with ⟨m, _, h2, h3⟩ | h1
  · exact ⟨m, by rw [isBnd, if_neg h]; exact ⟨by omega, h2, h3⟩⟩
  · have h2 := h1 (2 * size) (by omega) (by omega)
    have h3 : bndN size ≤ (2 * size) * (2 * size) := by
      unfold bndN
      have h4 := sq_mono (a := size - 1) (b := size) (by omega) (by omega)
      have e1 : 2 * (size - 1) * (size - 1) = 2 * ((size - 1) * (size - 1)) := by rw [Int.mul_assoc]
      have e2 : 2 * size * (2 * size) = 4 * (size * size) := by rw [Int.mul_assoc, ← Int.mul_assoc size 2 size, Int.mul_comm size 2, Int.mul_assoc, ← Int.mul_assoc]; rfl
      have h5 : 0 ≤ size * size := Int.mul_nonneg (by omega) (by omega)
      omega
    omega
end Go.Aw
