/-
  Plain laws: what holds holds with fewer failures, a greater rate, a greater error; least rates; most failures. No condition.
-/
import Derived.Test.YtmmnjelmahcbaaaGreatPxN18
namespace Go.Aw
set_option linter.unusedSimpArgs false
set_option linter.unusedVariables false
open Go.RowKit Go.Proofs Go.Nt Go.Rl

theorem holds_iff {n k rn rd an ad : Int} : holdsB n k rn rd an ad = true ↔ rateB rn rd = true ∧ rateB an ad = true ∧ fairB n k = true ∧ lo rn.toNat (rd - rn).toNat n.toNat (k.toNat + 1) * ad.toNat ≤ rd.toNat ^ n.toNat * an.toNat := by
  simp only [holdsB, Bool.and_eq_true, decide_eq_true_eq, and_assoc]
theorem toNat_mul_le {a b c d : Int} (ha : 0 ≤ a) (hb : 0 ≤ b) (hc : 0 ≤ c) (hd : 0 ≤ d) (h : a * b ≤ c * d) : a.toNat * b.toNat ≤ c.toNat * d.toNat := by
  have h := Int.toNat_le_toNat h
  rwa [Int.toNat_mul ha hb, Int.toNat_mul hc hd] at h

theorem holds_rate {n k p1 d1 p2 d2 an ad : Int} (h2 : rateB p2 d2 = true) (hle : p1 * d2 ≤ p2 * d1) (h : holdsB n k p1 d1 an ad = true) : holdsB n k p2 d2 an ad = true := by
  rw [holds_iff] at h ⊢
  obtain ⟨h1, ha, hf, h⟩ := h
  refine ⟨h2, ha, hf, ?_⟩
  obtain ⟨x1, x2, x3, x4⟩ := rateB_iff.1 h1
  obtain ⟨y1, y2, y3, y4⟩ := rateB_iff.1 h2
  have e1 : p1.toNat + (d1 - p1).toNat = d1.toNat := by omega
  have e2 : p2.toNat + (d2 - p2).toNat = d2.toNat := by omega
  have hr := lo_rate (p := p1.toNat) (q := (d1 - p1).toNat) (p' := p2.toNat) (q' := (d2 - p2).toNat) (by rw [e1, e2]; exact toNat_mul_le (by omega) (by omega) (by omega) (by omega) hle) n.toNat (k.toNat + 1)
  rw [e1, e2] at hr
  have pos : 0 < d1.toNat ^ n.toNat := Nat.pow_pos (by omega)
  generalize lo p1.toNat (d1 - p1).toNat n.toNat (k.toNat + 1) = L1 at *
  generalize lo p2.toNat (d2 - p2).toNat n.toNat (k.toNat + 1) = L2 at *
  generalize d1.toNat ^ n.toNat = W1 at *
  generalize d2.toNat ^ n.toNat = W2 at *
  refine Nat.le_of_mul_le_mul_right ?_ pos
  calc L2 * ad.toNat * W1 = L2 * W1 * ad.toNat := Nat.mul_right_comm _ _ _
    _ ≤ L1 * W2 * ad.toNat := Nat.mul_le_mul_right _ hr
    _ = L1 * ad.toNat * W2 := Nat.mul_right_comm _ _ _
    _ ≤ W1 * an.toNat * W2 := Nat.mul_le_mul_right _ h
    _ = W2 * an.toNat * W1 := by rw [Nat.mul_comm, ← Nat.mul_assoc, Nat.mul_right_comm]
/-- The least number whose rate is shown to hold; -1 if there is none. -/
def IsUp (h : Int → Bool) (den u : Int) : Prop := (u = -1 ∧ (1 ≤ den → den ≤ 1000 → h den = false)) ∨ (1 ≤ den ∧ den ≤ 1000 ∧ 0 ≤ u ∧ u ≤ den ∧ h u = true ∧ (0 < u → h (u - 1) = false))
theorem IsUp.uniq {h : Int → Bool} {den u u' : Int} (hm : ∀ i j, 0 ≤ i → i ≤ j → j ≤ den → h i = true → h j = true) (h1 : IsUp h den u) (h2 : IsUp h den u') : u = u' := by
  rcases h1 with ⟨rfl, h1⟩ | ⟨a1, a2, a3, a4, a5, a6⟩ <;> rcases h2 with ⟨rfl, h2⟩ | ⟨b1, b2, b3, b4, b5, b6⟩
  · rfl
  · rw [hm _ _ b3 b4 (Int.le_refl _) b5] at h1; cases h1 b1 b2
  · rw [hm _ _ a3 a4 (Int.le_refl _) a5] at h2; cases h2 a1 a2
  · rcases Int.lt_trichotomy u u' with h | h | h
    · rw [hm _ _ a3 (by omega : u ≤ u' - 1) (by omega) a5] at b6; cases b6 (by omega)
    · exact h
    · rw [hm _ _ b3 (by omega : u' ≤ u - 1) (by omega) b5] at a6; cases a6 (by omega)
noncomputable def upperI (n k an ad den : Int) : Int := open Classical in if h : ∃ u, IsUp (fun i => holdsB n k i den an ad) den u then Classical.choose h else 0
theorem up_mono {n k an ad den : Int} : ∀ i j, 0 ≤ i → i ≤ j → j ≤ den → holdsB n k i den an ad = true → holdsB n k j den an ad = true := fun i j h1 h2 h3 h => by
  have hd := (rateB_iff.1 (holds_iff.1 h).1)
  exact holds_rate (rateB_iff.2 ⟨by omega, by omega, by omega, h3⟩) (Int.mul_le_mul_of_nonneg_right h2 (by omega)) h
theorem up_eq {n k an ad den u : Int} (h : IsUp (fun i => holdsB n k i den an ad) den u) : upperI n k an ad den = u := by
  unfold upperI
  rw [dif_pos ⟨u, h⟩]
  exact IsUp.uniq up_mono (Classical.choose_spec (⟨u, h⟩ : ∃ u, IsUp (fun i => holdsB n k i den an ad) den u)) h

/-- The greatest k below m for which the test says yes; -1 if there is none. -/
def mostF (h : Int → Bool) : Nat → Int
  | 0 => -1
  | m + 1 => if h m then m else mostF h m
def mostI (n rn rd an ad : Int) : Int := mostF (fun k => holdsB n k rn rd an ad) (min n 60 + 1).toNat
end Go.Aw
