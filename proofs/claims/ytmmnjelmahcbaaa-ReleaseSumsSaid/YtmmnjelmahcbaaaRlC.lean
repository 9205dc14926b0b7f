/-
  Digits of parts of a whole, and how they are ordered. Plain definitions and lemmas; no condition.
-/
import Derived.Test.YtmmnjelmahcbaaaRlA
namespace Go.Rl
set_option linter.unusedSimpArgs false
set_option linter.unusedVariables false

/-- The first digits of r / w: the whole number first. -/
def dig (w : Nat) : Nat → Nat → List Nat
  | 0, _ => []
  | m + 1, r => r / w :: dig w m (r % w * 10)
def lessN : List Nat → List Nat → Bool
  | _, [] => false
  | [], _ :: _ => true
  | a :: x, b :: y => decide (a < b) || (a == b && lessN x y)

theorem dig_len (w : Nat) : ∀ m r, (dig w m r).length = m
  | 0, _ => rfl
  | m + 1, r => by simp [dig, dig_len w m]

/-- A greater part has no lesser digits. -/
theorem dig_mono {w w' : Nat} (hw : 0 < w) (hw' : 0 < w') : ∀ (m r r' : Nat), r' * w ≤ r * w' → lessN (dig w m r) (dig w' m r') = false
  | 0, _, _, _ => rfl
  | m + 1, r, r', h => by
    have hq : r' / w' ≤ r / w := by
      rw [Nat.le_div_iff_mul_le hw]
      have h1 : r' / w' * w' ≤ r' := Nat.div_mul_le_self r' w'
      have h2 : r' / w' * w * w' ≤ r * w' := by
        calc r' / w' * w * w' = r' / w' * w' * w := by rw [Nat.mul_assoc, Nat.mul_comm w w', ← Nat.mul_assoc]
          _ ≤ r' * w := Nat.mul_le_mul_right _ h1
          _ ≤ r * w' := h
      exact Nat.le_of_mul_le_mul_right h2 hw'
    simp only [dig, lessN, Bool.or_eq_false_iff, Bool.and_eq_false_iff, decide_eq_false_iff_not, Nat.not_lt]
    refine ⟨hq, ?_⟩
    by_cases he : r / w = r' / w'
    · refine .inr (dig_mono hw hw' m _ _ ?_)
      have e1 := Nat.div_add_mod r w
      have e2 := Nat.div_add_mod r' w'
      generalize r % w = s at e1 ⊢
      generalize r' % w' = s' at e2 ⊢
      rw [he] at e1
      generalize r' / w' = q at e1 e2
      subst e1 e2
      have h3 : s' * w ≤ s * w' := by
        rw [Nat.add_mul, Nat.add_mul] at h
        have : w' * q * w = w * q * w' := by rw [Nat.mul_comm w' q, Nat.mul_assoc, Nat.mul_comm w q, Nat.mul_assoc, Nat.mul_comm w' w]
        omega
      calc s' * 10 * w = s' * w * 10 := by rw [Nat.mul_assoc, Nat.mul_comm 10 w, ← Nat.mul_assoc]
        _ ≤ s * w' * 10 := Nat.mul_le_mul_right _ h3
        _ = s * 10 * w' := by rw [Nat.mul_assoc, Nat.mul_comm w' 10, ← Nat.mul_assoc]
    · exact .inl (by simpa using he)

theorem dig_small {w : Nat} (hw : 0 < w) : ∀ (m r : Nat), r < 10 * w → ∀ d, d ∈ dig w m r → d < 10
  | 0, _, _, d, h => by cases h
  | m + 1, r, hr, d, h => by
    simp only [dig, List.mem_cons] at h
    rcases h with rfl | h
    · exact (Nat.div_lt_iff_lt_mul hw).2 hr
    · exact dig_small hw m _ (by have := Nat.mod_lt r hw; omega) d h

/-- The bytes of a text of digits: the first one, a point, the others. -/
def digB : List Nat → List Nat
  | [] => [46]
  | d :: l => (48 + d) :: 46 :: l.map fun x => 48 + x
theorem lessN_map (k : Nat) : ∀ (a b : List Nat), lessN (a.map fun x => k + x) (b.map fun x => k + x) = lessN a b
  | _, [] => by simp [lessN]
  | [], _ :: _ => rfl
  | a :: x, b :: y => by
    simp only [List.map_cons, lessN, lessN_map k x y]
    congr 1
    · simp
    · congr 1
      rw [Bool.eq_iff_iff]
      simp
theorem digB_mono {w w' : Nat} (hw : 0 < w) (hw' : 0 < w') (m r r' : Nat) (h : r' * w ≤ r * w') : lessN (digB (dig w (m + 1) r)) (digB (dig w' (m + 1) r')) = false := by
  have := dig_mono hw hw' (m + 1) r r' h
  simp only [dig, lessN, digB] at this ⊢
  simp only [Bool.or_eq_false_iff, Bool.and_eq_false_iff, decide_eq_false_iff_not] at this ⊢
  refine ⟨by omega, ?_⟩
  rcases this.2 with h1 | h1
  · left; simpa using h1
  · right
    refine ⟨by omega, .inr ?_⟩
    rw [lessN_map]
    exact h1

theorem bytes_less : ∀ (a b : List Nat), (∀ x, x ∈ a → x < 256) → (∀ x, x ∈ b → x < 256) → Op.bytesLess (a.map UInt8.ofNat) (b.map UInt8.ofNat) = lessN a b
  | _, [], _, _ => by simp [lessN, Op.bytesLess]
  | [], _ :: _, _, _ => rfl
  | a :: x, b :: y, ha, hb => by
    have ih := bytes_less x y (fun z hz => ha z (by simp [hz])) (fun z hz => hb z (by simp [hz]))
    have h1 := ha a (by simp)
    have h2 := hb b (by simp)
    simp only [List.map_cons, lessN, Op.bytesLess, ih]
    congr 1
    · rw [Bool.eq_iff_iff]
      simp [UInt8.lt_iff_toNat_lt, Nat.mod_eq_of_lt h1, Nat.mod_eq_of_lt h2]
    · congr 1
      rw [Bool.eq_iff_iff]
      simp only [beq_iff_eq]
      constructor
      · intro h
        have := congrArg UInt8.toNat h
        simpa [Nat.mod_eq_of_lt h1, Nat.mod_eq_of_lt h2] using this
      · rintro rfl; rfl

end Go.Rl
