/-
  Chances of failures: how many of d^n equal cases have just k failures, tails, and how they go with the rate. Plain definitions and lemmas; no condition.
-/
import Derived.Test.YtmmnjelmahcbaaaNtA
namespace Go.Rl
set_option linter.unusedSimpArgs false
set_option linter.unusedVariables false

/-- Of (p + q)^n cases: those with k failures. -/
def cs (p q : Nat) : Nat → Nat → Nat
  | 0, 0 => 1
  | 0, _ + 1 => 0
  | n + 1, 0 => q * cs p q n 0
  | n + 1, k + 1 => q * cs p q n (k + 1) + p * cs p q n k

def sumF (f : Nat → Nat) : Nat → Nat
  | 0 => 0
  | n + 1 => sumF f n + f n
/-- From a on, so many. -/
def sumN (f : Nat → Nat) (a : Nat) : Nat → Nat
  | 0 => 0
  | m + 1 => sumN f a m + f (a + m)
/-- Fewer than k failures. -/
def lo (p q n k : Nat) : Nat := sumF (cs p q n) k

theorem sumN_zero (f : Nat → Nat) (m : Nat) : sumN f 0 m = sumF f m := by
  induction m with
  | zero => rfl
  | succ m ih => simp [sumN, sumF, ih]
theorem sumF_split (f : Nat → Nat) (a m : Nat) : sumF f (a + m) = sumF f a + sumN f a m := by
  induction m with
  | zero => rfl
  | succ m ih => rw [← Nat.add_assoc, sumF, ih, sumN]; omega
theorem sumF_congr {f g : Nat → Nat} {m : Nat} (h : ∀ i, i < m → f i = g i) : sumF f m = sumF g m := by
  induction m with
  | zero => rfl
  | succ m ih => simp only [sumF]; rw [ih fun i hi => h i (by omega), h m (by omega)]
theorem sumF_mul (f : Nat → Nat) (c m : Nat) : sumF (fun i => c * f i) m = c * sumF f m := by
  induction m with
  | zero => rfl
  | succ m ih => simp only [sumF]; rw [ih, Nat.mul_add]
theorem sumF_add (f g : Nat → Nat) (m : Nat) : sumF (fun i => f i + g i) m = sumF f m + sumF g m := by
  induction m with
  | zero => rfl
  | succ m ih => simp only [sumF]; rw [ih]; omega
theorem sumF_le {f g : Nat → Nat} {m : Nat} (h : ∀ i, i < m → f i ≤ g i) : sumF f m ≤ sumF g m := by
  induction m with
  | zero => exact Nat.le_refl _
  | succ m ih => simp only [sumF]; have := ih fun i hi => h i (by omega); have := h m (by omega); omega
theorem sumF_mono (f : Nat → Nat) {a b : Nat} (h : a ≤ b) : sumF f a ≤ sumF f b := by
  obtain ⟨m, rfl⟩ := Nat.le.dest h
  rw [sumF_split]; omega

theorem cs_zero (p q n : Nat) : cs p q n 0 = q ^ n := by
  induction n with
  | zero => rfl
  | succ n ih => rw [cs, ih, Nat.pow_succ, Nat.mul_comm]
theorem cs_big (p q : Nat) : ∀ (n k : Nat), n < k → cs p q n k = 0
  | 0, k + 1, _ => rfl
  | n + 1, k + 1, h => by rw [cs, cs_big p q n (k + 1) (by omega), cs_big p q n k (by omega)]; simp

theorem lo_succ (p q n : Nat) : ∀ k, lo p q (n + 1) (k + 1) = q * lo p q n (k + 1) + p * lo p q n k
  | 0 => by simp [lo, sumF, cs]
  | k + 1 => by
    have ih := lo_succ p q n k
    unfold lo at ih ⊢
    rw [sumF, ih]
    conv => rhs; rw [sumF]
    rw [cs]
    conv => rhs; arg 2; rw [sumF]
    rw [Nat.mul_add, Nat.mul_add]
    omega
theorem lo_all (p q : Nat) : ∀ (n k : Nat), n < k → lo p q n k = (p + q) ^ n
  | 0, k + 1, _ => by
    have : lo p q 0 (k + 1) = lo p q 0 1 := by
      unfold lo
      rw [show k + 1 = 1 + k by omega, sumF_split]
      have : ∀ m, sumN (cs p q 0) 1 m = 0 := by
        intro m
        induction m with
        | zero => rfl
        | succ m ih => rw [sumN, ih, cs_big p q 0 _ (by omega)]
      rw [this]; rfl
    rw [this]; rfl
  | n + 1, k + 1, h => by
    rw [lo_succ, lo_all p q n (k + 1) (by omega), lo_all p q n k (by omega), Nat.pow_succ, Nat.mul_comm _ (p + q), Nat.add_mul]
    omega
theorem lo_le (p q n k : Nat) : lo p q n k ≤ (p + q) ^ n := by
  rw [← lo_all p q n (max k (n + 1)) (by omega)]
  exact sumF_mono _ (by omega)
theorem lo_mono (p q n : Nat) {a b : Nat} (h : a ≤ b) : lo p q n a ≤ lo p q n b := sumF_mono _ h

/-- A greater rate has no greater lower tail. -/
theorem lo_rate {p q p' q' : Nat} (h : p * (p' + q') ≤ p' * (p + q)) : ∀ (n k : Nat), lo p' q' n k * (p + q) ^ n ≤ lo p q n k * (p' + q') ^ n
  | 0, k => by
    cases k with
    | zero => simp [lo, sumF]
    | succ k => rw [lo_all _ _ 0 _ (by omega), lo_all _ _ 0 _ (by omega)]; simp
  | n + 1, 0 => by simp [lo, sumF]
  | n + 1, k + 1 => by
    have h1 := lo_rate h n (k + 1)
    have h2 := lo_rate h n k
    rw [lo_succ, lo_succ]
    have hm := lo_mono p q n (Nat.le_succ k)
    generalize lo p' q' n (k + 1) = A' at h1 ⊢
    generalize lo p' q' n k = B' at h2 ⊢
    generalize lo p q n (k + 1) = A at h1 hm ⊢
    generalize lo p q n k = B at h2 hm ⊢
    rw [Nat.pow_succ, Nat.pow_succ]
    generalize (p + q) ^ n = X at h1 h2 ⊢
    generalize (p' + q') ^ n = Y at h1 h2 ⊢
    have e1 : (q' * A' + p' * B') * X ≤ (q' * A + p' * B) * Y := by
      rw [Nat.add_mul, Nat.add_mul, Nat.mul_assoc, Nat.mul_assoc, Nat.mul_assoc, Nat.mul_assoc]
      exact Nat.add_le_add (Nat.mul_le_mul_left _ h1) (Nat.mul_le_mul_left _ h2)
    have e2 : (q' * A + p' * B) * (p + q) ≤ (q * A + p * B) * (p' + q') := by
      obtain ⟨C, rfl⟩ := Nat.le.dest hm
      have i1 : (q' * (B + C) + p' * B) * (p + q) = B * ((p + q) * (p' + q')) + C * (q' * (p + q)) := by
        simp only [Nat.mul_add, Nat.add_mul, Nat.mul_comm, Nat.mul_left_comm, Nat.mul_assoc]; omega
      have i2 : (q * (B + C) + p * B) * (p' + q') = B * ((p + q) * (p' + q')) + C * (q * (p' + q')) := by
        simp only [Nat.mul_add, Nat.add_mul, Nat.mul_comm, Nat.mul_left_comm, Nat.mul_assoc]; omega
      rw [i1, i2]
      apply Nat.add_le_add_left
      apply Nat.mul_le_mul_left
      have j1 : q' * (p + q) + p' * (p + q) = q * (p' + q') + p * (p' + q') := by
        simp only [Nat.mul_add, Nat.mul_comm]; omega
      omega
    calc (q' * A' + p' * B') * (X * (p + q)) = (q' * A' + p' * B') * X * (p + q) := (Nat.mul_assoc _ _ _).symm
      _ ≤ (q' * A + p' * B) * Y * (p + q) := Nat.mul_le_mul_right _ e1
      _ = (q' * A + p' * B) * (p + q) * Y := by rw [Nat.mul_assoc, Nat.mul_comm Y, ← Nat.mul_assoc]
      _ ≤ (q * A + p * B) * (p' + q') * Y := Nat.mul_le_mul_right _ e2
      _ = (q * A + p * B) * (Y * (p' + q')) := by rw [Nat.mul_assoc, Nat.mul_comm (p' + q')]

end Go.Rl
