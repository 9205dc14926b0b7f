/-
  Plain laws: what holds holds with fewer failures, a greater rate, a greater error; least rates; most failures. No condition.
-/
import Derived.Test.YtmmnjelmahcbaaaPxN18
namespace Go.Aw
set_option linter.unusedSimpArgs false
set_option linter.unusedVariables false
open Go.RowKit Go.Proofs Go.Nt Go.Rl

theorem holds_iff {n k rn rd an ad : Int} : holdsB n k rn rd an ad = true ↔ rateB rn rd = true ∧ rateB an ad = true ∧ fairB n k = true ∧ lo rn.toNat (rd - rn).toNat n.toNat (k.toNat + 1) * ad.toNat ≤ rd.toNat ^ n.toNat * an.toNat := by
  simp only [holdsB, Bool.and_eq_true, decide_eq_true_eq, and_assoc]
theorem toNat_mul_le {a b c d : Int} (ha : 0 ≤ a) (hb : 0 ≤ b) (hc : 0 ≤ c) (hd : 0 ≤ d) (h : a * b ≤ c * d) : a.toNat * b.toNat ≤ c.toNat * d.toNat := by
  have h := Int.toNat_le_toNat h
  rwa [Int.toNat_mul ha hb, Int.toNat_mul hc hd] at h

theorem holds_rate {n k p1 d1 p2 d2 an ad : Int} (h2 : rateB p2 d2 = true) (hle : p1 * d2 ≤ p2 * d1) (h : holdsB n k p1 d1 an ad = true) : holdsB n k p2 d2 an ad = true := by
  rw [holds_iff] at h ⊢
  obtain ⟨h1, ha, hf, h⟩ := h
  refine ⟨h2, ha, hf, ?_⟩
  obtain ⟨x1, x2, x3, x4⟩ := rateB_iff.1 h1
  obtain ⟨y1, y2, y3, y4⟩ := rateB_iff.1 h2
  have e1 : p1.toNat + (d1 - p1).toNat = d1.toNat := by omega
  have e2 : p2.toNat + (d2 - p2).toNat = d2.toNat := by omega
  have hr := lo_rate (p := p1.toNat) (q := (d1 - p1).toNat) (p' := p2.toNat) (q' := (d2 - p2).toNat) (by rw [e1, e2]; exact toNat_mul_le (by omega) (by omega) (by omega) (by omega) hle) n.toNat (k.toNat + 1)
  rw [e1, e2] at hr
  have pos : 0 < d1.toNat ^ n.toNat := Nat.pow_pos (by omega)
  generalize lo p1.toNat (d1 - p1).toNat n.toNat (k.toNat + 1) = L1 at *
  generalize lo p2.toNat (d2 - p2).toNat n.toNat (k.toNat + 1) = L2 at *
  generalize d1.toNat ^ n.toNat = W1 at *
  generalize d2.toNat ^ n.toNat = W2 at *
  refine Nat.le_of_mul_le_mul_right ?_ pos
  calc L2 * ad.toNat * W1 = L2 * W1 * ad.toNat := Nat.mul_right_comm _ _ _
    _ ≤ L1 * W2 * ad.toNat := Nat.mul_le_mul_right _ hr
    _ = L1 * ad.toNat * W2 := Nat.mul_right_comm _ _ _
    _ ≤ W1 * an.toNat * W2 := Nat.mul_le_mul_right _ h
    _ = W2 * an.toNat * W1 := by rw [Nat.mul_comm, ← Nat.mul_assoc, Nat.mul_right_comm]
theorem holds_fewer {n k j rn rd an ad : Int} (hj : 0 ≤ j) (hle : j ≤ k) (h : holdsB n k rn rd an ad = true) : holdsB n j rn rd an ad = true := by
  rw [holds_iff] at h ⊢
  obtain ⟨h1, ha, hf, h⟩ := h
  obtain ⟨f1, f2, f3⟩ := fairB_iff.1 hf
  exact ⟨h1, ha, fairB_iff.2 ⟨hj, by omega, f3⟩, Nat.le_trans (Nat.mul_le_mul_right _ (lo_mono _ _ _ (by omega))) h⟩
theorem holds_err {n k rn rd a1 b1 a2 b2 : Int} (h2 : rateB a2 b2 = true) (hle : a1 * b2 ≤ a2 * b1) (h : holdsB n k rn rd a1 b1 = true) : holdsB n k rn rd a2 b2 = true := by
  rw [holds_iff] at h ⊢
  obtain ⟨h1, ha, hf, h⟩ := h
  obtain ⟨x1, x2, x3, x4⟩ := rateB_iff.1 ha
  obtain ⟨y1, y2, y3, y4⟩ := rateB_iff.1 h2
  have hm := toNat_mul_le (by omega) (by omega) (by omega) (by omega) hle
  refine ⟨h1, h2, hf, Nat.le_of_mul_le_mul_right (c := b1.toNat) ?_ (by omega)⟩
  generalize lo rn.toNat (rd - rn).toNat n.toNat (k.toNat + 1) = L at *
  generalize rd.toNat ^ n.toNat = W at *
  calc L * b2.toNat * b1.toNat = L * b1.toNat * b2.toNat := Nat.mul_right_comm _ _ _
    _ ≤ W * a1.toNat * b2.toNat := Nat.mul_le_mul_right _ h
    _ = W * (a1.toNat * b2.toNat) := Nat.mul_assoc _ _ _
    _ ≤ W * (a2.toNat * b1.toNat) := Nat.mul_le_mul_left _ hm
    _ = W * a2.toNat * b1.toNat := (Nat.mul_assoc _ _ _).symm

/-- The least number whose rate is shown to hold; -1 if there is none. -/
def IsUp (h : Int → Bool) (den u : Int) : Prop := (u = -1 ∧ (1 ≤ den → den ≤ 1000 → h den = false)) ∨ (1 ≤ den ∧ den ≤ 1000 ∧ 0 ≤ u ∧ u ≤ den ∧ h u = true ∧ (0 < u → h (u - 1) = false))
theorem IsUp.uniq {h : Int → Bool} {den u u' : Int} (hm : ∀ i j, 0 ≤ i → i ≤ j → j ≤ den → h i = true → h j = true) (h1 : IsUp h den u) (h2 : IsUp h den u') : u = u' := by
  rcases h1 with ⟨rfl, h1⟩ | ⟨a1, a2, a3, a4, a5, a6⟩ <;> rcases h2 with ⟨rfl, h2⟩ | ⟨b1, b2, b3, b4, b5, b6⟩
  · rfl
  · rw [hm _ _ b3 b4 (Int.le_refl _) b5] at h1; cases h1 b1 b2
  · rw [hm _ _ a3 a4 (Int.le_refl _) a5] at h2; cases h2 a1 a2
  · rcases Int.lt_trichotomy u u' with h | h | h
    · rw [hm _ _ a3 (by omega : u ≤ u' - 1) (by omega) a5] at b6; cases b6 (by omega)
    · exact h
    · rw [hm _ _ b3 (by omega : u' ≤ u - 1) (by omega) b5] at a6; cases a6 (by omega)
theorem up_ex (h : Int → Bool) (den : Int) : ∃ u, IsUp h den u := by
  by_cases hd : 1 ≤ den ∧ den ≤ 1000 ∧ h den = true
  · have key : ∀ m : Nat, h m = true → ∃ u : Int, 0 ≤ u ∧ u ≤ m ∧ h u = true ∧ (0 < u → h (u - 1) = false) := by
      intro m
      induction m with
      | zero => exact fun h0 => ⟨0, by omega, by omega, h0, fun h => by omega⟩
      | succ m ih =>
        intro h0
        cases hm : h (m : Int) with
        | true => obtain ⟨u, h1, h2, h3, h4⟩ := ih hm; exact ⟨u, h1, by omega, h3, h4⟩
        | false => exact ⟨((m + 1 : Nat) : Int), by omega, by omega, h0, fun _ => by rw [show ((m + 1 : Nat) : Int) - 1 = m by omega]; exact hm⟩
    obtain ⟨u, h1, h2, h3, h4⟩ := key den.toNat (by rw [Int.toNat_of_nonneg (by omega)]; exact hd.2.2)
    exact ⟨u, .inr ⟨hd.1, hd.2.1, h1, by omega, h3, h4⟩⟩
  · exact ⟨-1, .inl ⟨rfl, fun h1 h2 => by
      cases hh : h den with
      | false => rfl
      | true => exact absurd ⟨h1, h2, hh⟩ hd⟩⟩
noncomputable def upperI (n k an ad den : Int) : Int := open Classical in if h : ∃ u, IsUp (fun i => holdsB n k i den an ad) den u then Classical.choose h else 0
theorem up_mono {n k an ad den : Int} : ∀ i j, 0 ≤ i → i ≤ j → j ≤ den → holdsB n k i den an ad = true → holdsB n k j den an ad = true := fun i j h1 h2 h3 h => by
  have hd := (rateB_iff.1 (holds_iff.1 h).1)
  exact holds_rate (rateB_iff.2 ⟨by omega, by omega, by omega, h3⟩) (Int.mul_le_mul_of_nonneg_right h2 (by omega)) h
theorem up_eq {n k an ad den u : Int} (h : IsUp (fun i => holdsB n k i den an ad) den u) : upperI n k an ad den = u := by
  unfold upperI
  rw [dif_pos ⟨u, h⟩]
  exact IsUp.uniq up_mono (Classical.choose_spec (⟨u, h⟩ : ∃ u, IsUp (fun i => holdsB n k i den an ad) den u)) h

theorem up_spec (n k an ad den : Int) : IsUp (fun i => holdsB n k i den an ad) den (upperI n k an ad den) := by
  obtain ⟨u, h⟩ := up_ex (fun i => holdsB n k i den an ad) den
  rw [up_eq h]; exact h

/-- The greatest k below m for which the test says yes; -1 if there is none. -/
def mostF (h : Int → Bool) : Nat → Int
  | 0 => -1
  | m + 1 => if h m then m else mostF h m
def mostI (n rn rd an ad : Int) : Int := mostF (fun k => holdsB n k rn rd an ad) (min n 60 + 1).toNat
theorem most_bounds (h : Int → Bool) : ∀ m, -1 ≤ mostF h m ∧ mostF h m < m
  | 0 => by simp [mostF]
  | m + 1 => by
    have := most_bounds h m
    unfold mostF
    split <;> omega
theorem most_holds (h : Int → Bool) : ∀ m, 0 ≤ mostF h m → h (mostF h m) = true
  | 0, h0 => by simp [mostF] at h0
  | m + 1, h0 => by
    unfold mostF at h0 ⊢
    split
    · assumption
    · rename_i h1; rw [if_neg h1] at h0; exact most_holds h m h0

/-- The statement's law. -/
theorem more_law {N K rn rd sn sd an ad bn bd : Int} (hs : rateB sn sd = true) (hb : rateB bn bd = true) (h1 : rn * sd ≤ sn * rd) (h2 : an * bd ≤ bn * ad) (h : holdsB N K rn rd an ad = true) :
    (K > 0 → holdsB N (K - 1) rn rd an ad = true) ∧ holdsB N K sn sd an ad = true ∧ holdsB N K rn rd bn bd = true :=
  ⟨fun h0 => holds_fewer (by omega) (by omega) h, holds_rate hs h1 h, holds_err hb h2 h⟩
theorem up_fewer {n k an ad den u w : Int} (hk : 0 < k) (hu : IsUp (fun i => holdsB n k i den an ad) den u) (hw : IsUp (fun i => holdsB n (k - 1) i den an ad) den w) (h0 : 0 ≤ u) : 0 ≤ w ∧ w ≤ u := by
  rcases hu with ⟨rfl, _⟩ | ⟨a1, a2, a3, a4, a5, a6⟩
  · omega
  · have h1 := holds_fewer (j := k - 1) (by omega) (by omega) a5
    rcases hw with ⟨rfl, hw⟩ | ⟨b1, b2, b3, b4, b5, b6⟩
    · have := up_mono u den a3 a4 (Int.le_refl _) h1
      have h3 := hw a1 a2
      simp only [this] at h3
      cases h3
    · refine ⟨b3, ?_⟩
      rcases (by omega : u < w ∨ w ≤ u) with h | h
      · have h3 := up_mono u (w - 1) a3 (by omega) (by omega) h1
        have h4 := b6 (by omega)
        simp only [h3] at h4
        cases h4
      · exact h
theorem needF_spec (h : Int → Bool) : ∀ f n, 0 ≤ n → (needF h f n = 0 ∧ (∀ i, n ≤ i → i < n + f → (i = 0 ∨ h i = false))) ∨ (n ≤ needF h f n ∧ needF h f n < n + f ∧ h (needF h f n) = true ∧ (needF h f n = n ∨ h (needF h f n - 1) = false))
  | 0, n, h0 => .inl ⟨rfl, fun i h1 h2 => by omega⟩
  | f + 1, n, h0 => by
    unfold needF
    split
    · rename_i h1
      exact .inr ⟨Int.le_refl _, by omega, h1, .inl rfl⟩
    · rename_i h1
      rcases needF_spec h f (n + 1) (by omega) with ⟨e1, e2⟩ | ⟨e1, e2, e3, e4⟩
      · refine .inl ⟨e1, fun i h3 h4 => ?_⟩
        rcases (by omega : n < i ∨ i ≤ n) with h5 | h5
        · exact e2 i (by omega) (by omega)
        · obtain rfl : i = n := by omega
          exact .inr (by simpa using h1)
      · refine .inr ⟨by omega, by omega, e3, .inr ?_⟩
        rcases e4 with e4 | e4
        · rw [e4, show n + 1 - 1 = n by omega]; simpa using h1
        · exact e4
/-- How many runs are needed. -/
theorem need_law {k rn rd an ad : Int} (hk : 0 ≤ k) (hk2 : k ≤ 30) :
    (neededI k rn rd an ad = 0 → (k = 0 ∧ holdsB 0 0 rn rd an ad = true) ∨ holdsB 60 k rn rd an ad = false) ∧
    (neededI k rn rd an ad ≠ 0 → k ≤ neededI k rn rd an ad ∧ neededI k rn rd an ad ≤ 60 ∧ holdsB (neededI k rn rd an ad) k rn rd an ad = true ∧ (neededI k rn rd an ad = k ∨ holdsB (neededI k rn rd an ad - 1) k rn rd an ad = false)) := by
  have hs := needF_spec (fun n => holdsB n k rn rd an ad) (61 - k).toNat k hk
  rw [show needF (fun n => holdsB n k rn rd an ad) (61 - k).toNat k = neededI k rn rd an ad by rw [neededI, if_pos hk]; rfl] at hs
  refine ⟨fun h0 => ?_, fun h0 => ?_⟩
  · rcases hs with ⟨e1, e2⟩ | ⟨e1, e2, e3, e4⟩
    · rcases e2 60 (by omega) (by omega) with e | e
      · omega
      · exact .inr e
    · rw [h0] at e1 e3
      obtain rfl : k = 0 := by omega
      exact .inl ⟨rfl, e3⟩
  · rcases hs with ⟨e1, e2⟩ | ⟨e1, e2, e3, e4⟩
    · exact absurd e1 h0
    · exact ⟨e1, by omega, e3, e4⟩
end Go.Aw
