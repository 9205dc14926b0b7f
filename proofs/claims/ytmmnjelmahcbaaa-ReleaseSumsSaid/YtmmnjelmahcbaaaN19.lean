/-
  The statement about tails that are 1 together, and rise. No condition.
-/
import Derived.Test.YtmmnjelmahcbaaaN18
namespace Go.Aw
set_option linter.unusedSimpArgs false
set_option linter.unusedVariables false
open Go.RowKit Go.Proofs Go.Nt Go.Rl

/-- What must not be. -/
theorem sums_law {N K rn rd an ad bn bd : Int} (hr : rateB rn rd = true) (ha : rateB an ad = true) (hb : rateB bn bd = true) (hN : N ≤ 60) (hK : 0 ≤ K) (hKN : K + 1 ≤ N) :
    (an * bd + bn * ad < ad * bd → holdsB N K rn rd an ad = true → failsB N (K + 1) rn rd bn bd = false) ∧
    (an * bd + bn * ad ≥ ad * bd → holdsB N K rn rd an ad = false → failsB N (K + 1) rn rd bn bd = true) ∧
    (holdsB N (K + 1) rn rd an ad = true → holdsB N K rn rd an ad = true) := by
  have f1 : fairB N K = true := by rw [fairB_iff]; omega
  have f2 : fairB N (K + 1) = true := by rw [fairB_iff]; omega
  obtain ⟨r1, r2, r3, r4⟩ := rateB_iff.1 hr
  obtain ⟨a1, a2, a3, a4⟩ := rateB_iff.1 ha
  obtain ⟨b1, b2, b3, b4⟩ := rateB_iff.1 hb
  obtain ⟨an, rfl⟩ : ∃ x : Nat, an = x := ⟨an.toNat, by omega⟩
  obtain ⟨ad, rfl⟩ : ∃ x : Nat, ad = x := ⟨ad.toNat, by omega⟩
  obtain ⟨bn, rfl⟩ : ∃ x : Nat, bn = x := ⟨bn.toNat, by omega⟩
  obtain ⟨bd, rfl⟩ : ∃ x : Nat, bd = x := ⟨bd.toNat, by omega⟩
  simp only [holdsB, failsB, hr, ha, hb, f1, f2, Bool.true_and, decide_eq_true_eq, decide_eq_false_iff_not, Int.toNat_natCast]
  have hs : lo rn.toNat (rd - rn).toNat N.toNat (K.toNat + 1) + sumN (cs rn.toNat (rd - rn).toNat N.toNat) (K + 1).toNat (N.toNat - (K + 1).toNat + 1) = rd.toNat ^ N.toNat := by
    have h := lo_all rn.toNat (rd - rn).toNat N.toNat (N.toNat + 1) (by omega)
    rw [show rn.toNat + (rd - rn).toNat = rd.toNat by omega] at h
    rw [← h, show (K + 1).toNat = K.toNat + 1 by omega]
    unfold lo
    rw [← sumF_split, show K.toNat + 1 + (N.toNat - (K.toNat + 1) + 1) = N.toNat + 1 by omega]
  have hm : lo rn.toNat (rd - rn).toNat N.toNat (K.toNat + 1) ≤ lo rn.toNat (rd - rn).toNat N.toNat ((K + 1).toNat + 1) := lo_mono _ _ _ (by omega)
  have hW : 0 < rd.toNat ^ N.toNat := Nat.pow_pos (by omega)
  generalize lo rn.toNat (rd - rn).toNat N.toNat ((K + 1).toNat + 1) = L2 at *
  generalize lo rn.toNat (rd - rn).toNat N.toNat (K.toNat + 1) = L at *
  generalize sumN (cs rn.toNat (rd - rn).toNat N.toNat) (K + 1).toNat (N.toNat - (K + 1).toNat + 1) = U at *
  generalize rd.toNat ^ N.toNat = W at *
  have key : L * ad * bd + U * bd * ad = W * (ad * bd) := by
    rw [← hs, Nat.add_mul, Nat.mul_assoc, Nat.mul_assoc, Nat.mul_comm bd ad]
  have key2 : W * an * bd + W * bn * ad = W * (an * bd + bn * ad) := by rw [Nat.mul_add, Nat.mul_assoc, Nat.mul_assoc]
  refine ⟨fun h hl hu => ?_, fun h hl => ?_, fun h => Nat.le_trans (Nat.mul_le_mul_right _ hm) h⟩
  · have e1 := Nat.mul_le_mul_right bd hl
    have e2 := Nat.mul_le_mul_right ad hu
    have h' : an * bd + bn * ad < ad * bd := by
      have : ((an * bd + bn * ad : Nat) : Int) < ((ad * bd : Nat) : Int) := by simpa using h
      omega
    have e3 := Nat.mul_lt_mul_of_pos_left h' hW
    omega
  · refine Nat.le_of_not_lt fun hu => ?_
    have hl' : W * an < L * ad := by omega
    have e1 := Nat.mul_lt_mul_of_pos_right hl' (show 0 < bd by omega)
    have e2 := Nat.mul_lt_mul_of_pos_right hu (show 0 < ad by omega)
    have h' : ad * bd ≤ an * bd + bn * ad := by
      have : ((ad * bd : Nat) : Int) ≤ ((an * bd + bn * ad : Nat) : Int) := by simpa using h
      omega
    have e3 := Nat.mul_le_mul_left W h'
    omega

theorem digT_list (ds : List Nat) : (digT ds).toList = (digB ds).map UInt8.ofNat := by
  have : ∀ l : List UInt8, (⟨l.toArray⟩ : ByteArray).toList = l := fun l => by
    rw [ByteArray.toList_eq]
  exact this _
theorem digB_small {ds : List Nat} (h : ∀ d, d ∈ ds → d < 10) : ∀ x, x ∈ digB ds → x < 256 := by
  cases ds with
  | nil => intro x hx; simp [digB] at hx; omega
  | cons d l =>
    intro x hx
    simp only [digB, List.mem_cons, List.mem_map] at hx
    rcases hx with rfl | rfl | ⟨y, hy, rfl⟩
    · have := h d (by simp); omega
    · decide
    · have := h y (by simp [hy]); omega
theorem digT_less {w w' r r' m : Nat} (hw : 0 < w) (hw' : 0 < w') (hr : r ≤ w) (hr' : r' ≤ w') (h : r' * w ≤ r * w') : Op.bytesLess (digT (dig w (m + 1) r)).toList (digT (dig w' (m + 1) r')).toList = false := by
  rw [digT_list, digT_list, bytes_less _ _ (digB_small fun d hd => dig_small hw _ _ (by omega) d hd) (digB_small fun d hd => dig_small hw' _ _ (by omega) d hd)]
  exact digB_mono hw hw' m r r' h
theorem digT_size (w m r : Nat) : (digT (dig w (m + 1) r)).size = m + 2 := by
  have := dig_len w m (r % w * 10)
  simp [digT, dig, digB, ByteArray.size, this]

end Go.Aw
