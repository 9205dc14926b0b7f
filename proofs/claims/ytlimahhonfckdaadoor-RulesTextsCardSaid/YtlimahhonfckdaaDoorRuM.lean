/-
  Texts of the library, one behind the other. Over any program; no condition.
-/
import Derived.Test.YtlimahhonfckdaaDoorRuF
namespace Go.Aw
set_option linter.unusedSimpArgs false
set_option linter.unusedVariables false
open Go.Lib

def digB (c : UInt8) : Bool := decide (48 ≤ c.toNat ∧ c.toNat ≤ 57)
def dgv : List UInt8 → Nat → Nat
  | [], a => a
  | c :: l, a => dgv l (10 * a + (c.toNat - 48))
theorem dgv_app : ∀ (l : List UInt8) (c : UInt8) (a : Nat), dgv (l ++ [c]) a = 10 * dgv l a + (c.toNat - 48)
  | [], c, a => rfl
  | b :: l, c, a => by rw [List.cons_append, dgv, dgv, dgv_app l c]
theorem dgv_lt : ∀ (l : List UInt8) (a : Nat), (∀ c, c ∈ l → digB c = true) → dgv l a < (a + 1) * 10 ^ l.length
  | [], a, _ => by simp [dgv]
  | b :: l, a, h => by
    have h1 := dgv_lt l (10 * a + (b.toNat - 48)) fun c hc => h c (by simp [hc])
    have h2 := h b (by simp)
    simp only [digB, decide_eq_true_eq] at h2
    rw [dgv, List.length_cons, Nat.pow_succ]
    refine Nat.lt_of_lt_of_le h1 ?_
    rw [Nat.mul_comm (10 ^ l.length) 10, ← Nat.mul_assoc]
    exact Nat.mul_le_mul_right _ (by omega)
theorem dgv_dec : ∀ (k u : Nat), u < 10 ^ (k + 1) → dgv (decDigits u) 0 = u
  | k, u, h => by
    rw [decDigits]
    split
    · rename_i h10
      simp only [dgv, dig_nat h10]
      omega
    · rename_i h10
      match k with
      | 0 => simp at h; omega
      | k + 1 =>
        rw [dgv_app, dgv_dec k (u / 10) (by rw [Nat.pow_succ] at h; omega), dig_nat (Nat.mod_lt _ (by decide))]
        omega
theorem dgv_all (u : Nat) : dgv (decDigits u) 0 = u := dgv_dec u u (Nat.lt_trans (Nat.lt_succ_self u) (Nat.lt_pow_self (by decide)))
def frW (l : List UInt8) : Nat := if l.head? = some 45 then 1 else 0
def dsW (l : List UInt8) : List UInt8 := (l.drop (frW l)).take 18
def valW (l : List UInt8) : Int := if frW l = 1 then 0 - (dgv (dsW l) 0 : Nat) else (dgv (dsW l) 0 : Nat)
def readV (l : List UInt8) : Int × Bool := if (dsW l).all digB then (valW l, decide (itoa (valW l) = l)) else (0, false)
theorem dsW_len (l : List UInt8) : (dsW l).length ≤ 18 := by simp [dsW]; omega
theorem valW_bd {l : List UInt8} (h : ∀ c, c ∈ dsW l → digB c = true) : smallI (valW l) := by
  have h1 := dgv_lt (dsW l) 0 h
  have h2 : 10 ^ (dsW l).length ≤ 10 ^ 18 := Nat.pow_le_pow_right (by decide) (dsW_len l)
  have h3 : (10 : Nat) ^ 18 = 1000000000000000000 := by decide
  unfold valW smallI
  split <;> omega
theorem read_itoa {v : Int} (h : smallI v) : readV (itoa v) = (v, true) := by
  have hd := dec_digits v.natAbs
  have hl := dec_len (u := v.natAbs) (by unfold smallI at h; omega)
  have hne := dec_ne v.natAbs
  have key : dsW (itoa v) = decDigits v.natAbs ∧ valW (itoa v) = v := by
    by_cases hn : v < 0
    · have e : itoa v = 45 :: decDigits v.natAbs := by rw [itoa, if_pos hn]
      have hf : frW (itoa v) = 1 := by rw [e]; rfl
      have hds : dsW (itoa v) = decDigits v.natAbs := by
        rw [dsW, hf, e, List.drop_succ_cons, List.drop_zero, List.take_of_length_le hl]
      refine ⟨hds, ?_⟩
      rw [valW, if_pos hf, hds, dgv_all]
      omega
    · have e : itoa v = decDigits v.natAbs := by rw [itoa, if_neg hn, show v.toNat = v.natAbs by omega]
      have hf : frW (itoa v) = 0 := by
        unfold frW
        rw [if_neg]
        rw [e]
        intro hh
        have := hd 45 (List.mem_of_mem_head? hh)
        revert this
        decide
      have hds : dsW (itoa v) = decDigits v.natAbs := by
        rw [dsW, hf, e, List.drop_zero, List.take_of_length_le hl]
      refine ⟨hds, ?_⟩
      rw [valW, if_neg (by omega), hds, dgv_all]
      omega
  obtain ⟨k1, k2⟩ := key
  unfold readV
  rw [k1, k2, if_pos]
  · simp
  · rw [List.all_eq_true]
    intro c hc
    simp only [digB, decide_eq_true_eq]
    exact hd c hc
theorem read_numO (l : List UInt8) : numO l = if (readV l).2 then some (readV l).1 else none := by
  cases h : numO l with
  | some v =>
    obtain ⟨h1, h2⟩ := numO_some h
    rw [← h1, read_itoa h2]
    rfl
  | none =>
    cases hb : (readV l).2 with
    | false => rfl
    | true =>
      exfalso
      unfold readV at hb
      split at hb
      · rename_i ha
        have e : itoa (valW l) = l := by simpa using hb
        have hs := valW_bd (l := l) fun c hc => List.all_eq_true.1 ha c hc
        have := numO_itoa hs
        rw [e, h] at this
        cases this
      · cases hb
end Go.Aw
