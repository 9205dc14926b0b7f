/-
  Sums over all results, over all samples, and over choices: what ReleaseErrors, ReleaseSample and ReleaseNeither lean on. Plain definitions and lemmas; no condition.
-/
import Derived.Test.YtmmnjelmahcbaaaRlA
namespace Go.Rl
set_option linter.unusedSimpArgs false
set_option linter.unusedVariables false

/-- Bit number i. -/
def bit (w i : Nat) : Bool := w / 2 ^ i % 2 == 1
/-- How many failures a result has, its weight. -/
def fails (w : Nat) : Nat → Nat
  | 0 => 0
  | n + 1 => fails w n + (if bit w n then 1 else 0)
def weight (t u w : Nat) : Nat → Nat
  | 0 => 1
  | n + 1 => weight t u w n * (if bit w n then t else u)

theorem bit_low {w m i : Nat} (h : i < m) : bit (2 ^ m + w) i = bit w i := by
  unfold bit
  congr 1
  obtain ⟨d, rfl⟩ : ∃ d, m = i + (d + 1) := ⟨m - i - 1, by omega⟩
  rw [Nat.pow_add, Nat.mul_comm, Nat.add_comm, Nat.add_mul_div_right _ _ (Nat.pow_pos (by omega)), Nat.pow_succ]
  rw [Nat.add_mod, Nat.mul_mod_left, Nat.add_zero, Nat.mod_mod]
theorem bit_top {w m : Nat} (h : w < 2 ^ m) : bit (2 ^ m + w) m = true ∧ bit w m = false := by
  unfold bit
  constructor
  · rw [Nat.add_comm, Nat.add_div_right _ (Nat.pow_pos (by omega)), Nat.div_eq_of_lt h]; rfl
  · rw [Nat.div_eq_of_lt h]; rfl
theorem fails_low {w m : Nat} : ∀ {n : Nat}, n ≤ m → fails (2 ^ m + w) n = fails w n
  | 0, _ => rfl
  | n + 1, h => by simp only [fails]; rw [fails_low (n := n) (by omega), bit_low (by omega)]
theorem weight_low {t u w m : Nat} : ∀ {n : Nat}, n ≤ m → weight t u (2 ^ m + w) n = weight t u w n
  | 0, _ => rfl
  | n + 1, h => by simp only [weight]; rw [weight_low (n := n) (by omega), bit_low (by omega)]
theorem fails_le (w : Nat) : ∀ n, fails w n ≤ n
  | 0 => Nat.le_refl _
  | n + 1 => by simp only [fails]; have := fails_le w n; split <;> omega

/-- The weight of all results with fewer than K failures is the tail. -/
theorem words_lo (t u : Nat) : ∀ (n K : Nat), sumF (fun w => if fails w n < K then weight t u w n else 0) (2 ^ n) = lo t u n K
  | 0, K => by
    cases K with
    | zero => rfl
    | succ K =>
      rw [lo_all t u 0 (K + 1) (by omega)]
      simp [sumF, fails, weight]
  | n + 1, K => by
    rw [Nat.pow_succ, Nat.mul_two, sumF_split]
    have h1 : sumF (fun w => if fails w (n + 1) < K then weight t u w (n + 1) else 0) (2 ^ n) = u * lo t u n K := by
      rw [← words_lo t u n K, ← sumF_mul]
      refine sumF_congr fun w hw => ?_
      simp only [fails, weight, (bit_top hw).2, Bool.false_eq_true, if_false, Nat.add_zero]
      split
      · rw [Nat.mul_comm]
      · simp
    have h2 : ∀ m, m ≤ 2 ^ n → sumN (fun w => if fails w (n + 1) < K then weight t u w (n + 1) else 0) (2 ^ n) m = t * sumF (fun w => if fails w n + 1 < K then weight t u w n else 0) m := by
      intro m
      induction m with
      | zero => intro _; rfl
      | succ m ih =>
        intro hm
        rw [sumN, ih (by omega), sumF, Nat.mul_add]
        congr 1
        simp only [fails, weight, (bit_top (show m < 2 ^ n by omega)).1, if_true, fails_low (Nat.le_refl n), weight_low (Nat.le_refl n)]
        split
        · rw [Nat.mul_comm]
        · simp
    rw [h1, h2 _ (Nat.le_refl _)]
    cases K with
    | zero =>
      have : sumF (fun w => if fails w n + 1 < 0 then weight t u w n else 0) (2 ^ n) = 0 := by
        have := sumF_congr (f := fun w => if fails w n + 1 < 0 then weight t u w n else 0) (g := fun _ => 0 * 0) (m := 2 ^ n) (fun i _ => by simp)
        rw [this, sumF_mul]; simp
      rw [this]
      simp [lo, sumF]
    | succ K =>
      rw [lo_succ, ← words_lo t u n K]
      congr 2
      refine sumF_congr fun w hw => ?_
      simp only [Nat.add_lt_add_iff_right]

/-- The results whose number of failures shows something, where fewer failures show it too: their weight. -/
theorem words_holds {t u p q d anum aden n : Nat} (h : Nat → Bool) (hh : ∀ k, k ≤ n → (h k = true ↔ lo p q n (k + 1) * aden ≤ d ^ n * anum)) (hd : p + q = d) (htd : t + u = d) (hpt : p ≤ t) (hd0 : 0 < d) :
    sumF (fun w => if h (fails w n) then weight t u w n else 0) (2 ^ n) * aden ≤ d ^ n * anum := by
  have hdown : ∀ k, k < n → h (k + 1) = true → h k = true := fun k hk h1 => by
    rw [hh k (by omega)]
    rw [hh (k + 1) (by omega)] at h1
    exact Nat.le_trans (Nat.mul_le_mul_right _ (lo_mono p q n (by omega))) h1
  have hK : ∃ K, K ≤ n + 1 ∧ ∀ k, k ≤ n → (h k = true ↔ k < K) := by
    have key : ∀ m, m ≤ n + 1 → ∃ K, K ≤ m ∧ ∀ k, k < m → (h k = true ↔ k < K) := by
      intro m
      induction m with
      | zero => intro _; exact ⟨0, by omega, fun k hk => by omega⟩
      | succ m ih =>
        intro hm
        obtain ⟨K, h1, h2⟩ := ih (by omega)
        cases hc : h m with
        | true =>
          have hall : ∀ j, j ≤ m → h (m - j) = true := by
            intro j
            induction j with
            | zero => intro _; exact hc
            | succ j ihj =>
              intro hj
              have := ihj (by omega)
              rw [show m - j = (m - (j + 1)) + 1 by omega] at this
              exact hdown _ (by omega) this
          refine ⟨m + 1, Nat.le_refl _, fun k hk => ⟨fun _ => hk, fun _ => ?_⟩⟩
          have := hall (m - k) (by omega)
          rwa [show m - (m - k) = k by omega] at this
        | false =>
          refine ⟨K, by omega, fun k hk => ?_⟩
          rcases Nat.lt_or_ge k m with h3 | h3
          · exact h2 k h3
          · have : k = m := by omega
            subst this
            rw [hc]
            constructor
            · intro h; cases h
            · intro h; omega
    obtain ⟨K, h1, h2⟩ := key (n + 1) (Nat.le_refl _)
    exact ⟨K, h1, fun k hk => h2 k (by omega)⟩
  obtain ⟨K, hKn, hK⟩ := hK
  have e : sumF (fun w => if h (fails w n) then weight t u w n else 0) (2 ^ n) = lo t u n K := by
    rw [← words_lo]
    refine sumF_congr fun w _ => ?_
    have := hK (fails w n) (fails_le w n)
    by_cases hc : fails w n < K
    · rw [if_pos hc, if_pos (this.2 hc)]
    · rw [if_neg hc, if_neg (fun h => hc (this.1 h))]
  rw [e]
  cases K with
  | zero => simp [lo, sumF]
  | succ K =>
    have h1 := (hh K (by omega)).1 ((hK K (by omega)).2 (by omega))
    have h2 := lo_rate (p := p) (q := q) (p' := t) (q' := u) (by rw [hd, htd]; exact Nat.mul_le_mul_right _ hpt) n (K + 1)
    rw [hd, htd] at h2
    have h3 : lo t u n (K + 1) ≤ lo p q n (K + 1) := Nat.le_of_mul_le_mul_right h2 (Nat.pow_pos hd0)
    exact Nat.le_trans (Nat.mul_le_mul_right _ h3) h1

/-- The digits of a sample that are not below a bound. -/
def tops (d b : Nat) (w : Nat) : Nat → Nat
  | 0 => 0
  | n + 1 => (if b ≤ w % d then 1 else 0) + tops d b (w / d) n

theorem sumF_block (f : Nat → Nat) (d : Nat) : ∀ m, sumF f (m * d) = sumF (fun w => sumF (fun r => f (w * d + r)) d) m
  | 0 => by simp [sumF]
  | m + 1 => by
    rw [Nat.add_mul, Nat.one_mul, sumF_split, sumF_block f d m, sumF]
    congr 1
    generalize m * d = a
    have : ∀ k, sumN f a k = sumF (fun r => f (a + r)) k := by
      intro k
      induction k with
      | zero => rfl
      | succ k ih => rw [sumN, sumF, ih]
    exact this d

/-- Of all samples: those with fewer than K digits from b on. -/
theorem samples_lo {d b : Nat} (hb : b ≤ d) (hd : 0 < d) : ∀ (n K : Nat), sumF (fun w => if tops d b w n < K then 1 else 0) (d ^ n) = lo (d - b) b n K
  | 0, K => by
    cases K with
    | zero => rfl
    | succ K => rw [lo_all _ _ 0 (K + 1) (by omega)]; simp [sumF, tops]
  | n + 1, K => by
    rw [Nat.pow_succ, sumF_block]
    have inner : ∀ w, sumF (fun r => if tops d b (w * d + r) (n + 1) < K then 1 else 0) d = b * (if tops d b w n < K then 1 else 0) + (d - b) * (if tops d b w n + 1 < K then 1 else 0) := by
      intro w
      have hval : ∀ r, r < d → tops d b (w * d + r) (n + 1) = (if b ≤ r then 1 else 0) + tops d b w n := fun r hr => by
        simp only [tops]
        rw [Nat.mul_comm w d, Nat.mul_add_mod, Nat.mod_eq_of_lt hr, Nat.mul_add_div hd, Nat.div_eq_of_lt hr, Nat.add_zero]
      have key : ∀ m, m ≤ d → sumF (fun r => if tops d b (w * d + r) (n + 1) < K then 1 else 0) m = min m b * (if tops d b w n < K then 1 else 0) + (m - b) * (if tops d b w n + 1 < K then 1 else 0) := by
        intro m
        induction m with
        | zero => intro _; simp [sumF]
        | succ m ih =>
          intro hm
          rw [sumF, ih (by omega), hval m (by omega)]
          by_cases hbm : b ≤ m
          · rw [if_pos hbm, show min (m + 1) b = min m b by omega, show m + 1 - b = (m - b) + 1 by omega, Nat.add_comm 1, Nat.add_mul, Nat.one_mul, Nat.add_assoc]
          · rw [if_neg hbm, show min (m + 1) b = min m b + 1 by omega, show m + 1 - b = m - b by omega, Nat.zero_add, Nat.add_mul, Nat.one_mul]
            omega
      rw [key d (Nat.le_refl _), Nat.min_eq_right hb]
    rw [sumF_congr fun w _ => inner w, sumF_add, sumF_mul, sumF_mul, samples_lo hb hd n K]
    cases K with
    | zero =>
      have : sumF (fun w => if tops d b w n + 1 < 0 then 1 else 0) (d ^ n) = 0 := by
        have := sumF_congr (f := fun w => if tops d b w n + 1 < 0 then 1 else 0) (g := fun _ => 0 * 0) (m := d ^ n) (fun i _ => by simp)
        rw [this, sumF_mul]; simp
      rw [this]
      simp [lo, sumF]
    | succ K =>
      rw [lo_succ, ← samples_lo hb hd n K]
      simp only [Nat.add_lt_add_iff_right]

/-- The product of choices at one sum: all, and from one place on. -/
def conv (f g : Nat → Nat) (s a m : Nat) : Nat := sumN (fun i => f i * g (s - i)) a m
theorem sumF_rev (f : Nat → Nat) : ∀ m, sumF f m = sumF (fun i => f (m - 1 - i)) m
  | 0 => rfl
  | m + 1 => by
    have h := sumF_split (fun i => f (m + 1 - 1 - i)) 1 m
    rw [Nat.add_comm 1 m] at h
    rw [h]
    simp only [sumF, Nat.sub_zero, Nat.add_sub_cancel, Nat.zero_add]
    rw [sumF_rev f m, Nat.add_comm]
    congr 1
    have : ∀ k, sumN (fun i => f (m - i)) 1 k = sumF (fun i => f (m - 1 - i)) k := by
      intro k
      induction k with
      | zero => rfl
      | succ k ih => rw [sumN, sumF, ih, show m - (1 + k) = m - 1 - k by omega]
    exact (this m).symm
/-- Each of two results worse than the other one: their parts are more than the whole. -/
theorem neither (f g : Nat → Nat) (k j : Nat) : conv f g (k + j) k (j + 1) + conv g f (j + k) j (k + 1) = sumF (fun i => f i * g (k + j - i)) (k + j + 1) + f k * g j := by
  have h1 : sumF (fun i => f i * g (k + j - i)) (k + j + 1) = sumF (fun i => f i * g (k + j - i)) k + conv f g (k + j) k (j + 1) := by
    rw [show k + j + 1 = k + (j + 1) by omega, sumF_split]; rfl
  have h2 : conv g f (j + k) j (k + 1) = sumF (fun i => f i * g (k + j - i)) (k + 1) := by
    rw [sumF_rev]
    unfold conv
    have : ∀ m, m ≤ k + 1 → sumN (fun i => g i * f (j + k - i)) j m = sumF (fun i => f (k + 1 - 1 - i) * g (k + j - (k + 1 - 1 - i))) m := by
      intro m
      induction m with
      | zero => intro _; rfl
      | succ m ih =>
        intro hm
        rw [sumN, sumF, ih (by omega)]
        congr 1
        rw [Nat.mul_comm, show j + k - (j + m) = k + 1 - 1 - m by omega, show k + j - (k + 1 - 1 - m) = j + m by omega]
    exact this _ (Nat.le_refl _)
  rw [h1, h2, sumF, show k + j - k = j by omega]
  omega

end Go.Rl
