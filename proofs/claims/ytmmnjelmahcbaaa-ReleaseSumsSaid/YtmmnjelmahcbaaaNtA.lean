/-
  Natural numbers as lists of words, the least one first. Plain definitions and lemmas; no condition.
-/
import Derived.Test.YtmmnjelmahcbaaaAwZ
namespace Go.Nt
set_option linter.unusedSimpArgs false
set_option linter.unusedVariables false

def val (B : Nat) : List Nat → Nat
  | [] => 0
  | x :: l => x + B * val B l
def Ok (B : Nat) (l : List Nat) : Prop := ∀ x, x ∈ l → x < B
/-- The digits of a number. -/
def digs (B n : Nat) : List Nat := if h : n = 0 ∨ B < 2 then [] else n % B :: digs B (n / B)
termination_by n
decreasing_by exact Nat.div_lt_self (by omega) (by omega)

theorem digs_zero (B : Nat) : digs B 0 = [] := by rw [digs]; simp
theorem digs_pos {B n : Nat} (hB : 2 ≤ B) (hn : n ≠ 0) : digs B n = n % B :: digs B (n / B) := by
  rw [digs, dif_neg (by omega)]

theorem val_digs {B : Nat} (hB : 2 ≤ B) (n : Nat) : val B (digs B n) = n := by
  induction n using Nat.strongRecOn with
  | ind n ih =>
    by_cases h : n = 0
    · subst h; rw [digs_zero]; rfl
    · rw [digs_pos hB h, val, ih (n / B) (Nat.div_lt_self (by omega) (by omega))]
      exact Nat.mod_add_div n B
theorem digs_ok {B : Nat} (hB : 2 ≤ B) (n : Nat) : Ok B (digs B n) := by
  induction n using Nat.strongRecOn with
  | ind n ih =>
    by_cases h : n = 0
    · subst h; rw [digs_zero]; intro x hx; cases hx
    · rw [digs_pos hB h]
      intro x hx
      rcases List.mem_cons.1 hx with rfl | hx
      · exact Nat.mod_lt _ (by omega)
      · exact ih (n / B) (Nat.div_lt_self (by omega) (by omega)) x hx

theorem Ok.tail {B x : Nat} {l : List Nat} (h : Ok B (x :: l)) : Ok B l := fun y hy => h y (by simp [hy])
theorem Ok.head {B x : Nat} {l : List Nat} (h : Ok B (x :: l)) : x < B := h x (by simp)
theorem Ok.app {B : Nat} {l m : List Nat} (h : Ok B l) (h' : Ok B m) : Ok B (l ++ m) := fun x hx => (List.mem_append.1 hx).elim (h x) (h' x)
theorem Ok.left {B : Nat} {l m : List Nat} (h : Ok B (l ++ m)) : Ok B l := fun x hx => h x (by simp [hx])
theorem Ok.right {B : Nat} {l m : List Nat} (h : Ok B (l ++ m)) : Ok B m := fun x hx => h x (by simp [hx])
theorem Ok.one {B x : Nat} (h : x < B) : Ok B [x] := fun y hy => by simp at hy; omega
theorem Ok.rep {B : Nat} (hB : 0 < B) (n : Nat) : Ok B (List.replicate n 0) := fun y hy => by rw [List.eq_of_mem_replicate hy]; exact hB

theorem val_append (B : Nat) : ∀ (l m : List Nat), val B (l ++ m) = val B l + B ^ l.length * val B m
  | [], m => by simp [val]
  | x :: l, m => by
    simp only [List.cons_append, val, val_append B l m, List.length_cons, Nat.pow_succ]
    rw [Nat.mul_add, Nat.add_assoc, ← Nat.mul_assoc, Nat.mul_comm B (B ^ l.length)]
theorem val_rep (B : Nat) : ∀ n, val B (List.replicate n 0) = 0
  | 0 => rfl
  | n + 1 => by simp [List.replicate_succ, val, val_rep B n]
theorem val_lt {B : Nat} (hB : 0 < B) : ∀ {l : List Nat}, Ok B l → val B l < B ^ l.length
  | [], _ => by simp [val]
  | x :: l, h => by
    have h1 := val_lt hB h.tail
    have h2 := h.head
    simp only [val, List.length_cons, Nat.pow_succ]
    have : B * (val B l + 1) ≤ B * B ^ l.length := Nat.mul_le_mul_left B h1
    rw [Nat.mul_comm (B ^ l.length) B]
    rw [Nat.mul_add] at this
    omega

/-- Without zeros at the end: the digits. -/
theorem eq_digs {B : Nat} (hB : 2 ≤ B) : ∀ {l : List Nat}, Ok B l → (∀ x, l.getLast? = some x → x ≠ 0) → l = digs B (val B l)
  | [], _, _ => by simp [val, digs_zero]
  | x :: l, h, hz => by
    have ih := eq_digs hB h.tail (fun y hy => by
      cases l with
      | nil => simp at hy
      | cons z l => exact hz y (by rw [List.getLast?_cons_cons]; exact hy))
    have hx := h.head
    have hne : val B (x :: l) ≠ 0 := by
      intro h0
      simp only [val] at h0
      have h1 : x = 0 := by omega
      have h2 : val B l = 0 := by
        have : B * val B l = 0 := by omega
        rcases Nat.mul_eq_zero.1 this with h3 | h3
        · omega
        · exact h3
      cases l with
      | nil => exact hz x rfl h1
      | cons z l =>
        rw [h2, digs_zero] at ih
        cases ih
    rw [digs_pos hB hne]
    simp only [val]
    rw [Nat.add_mul_mod_self_left, Nat.mod_eq_of_lt hx, Nat.add_mul_div_left _ _ (by omega), Nat.div_eq_of_lt hx, Nat.zero_add, ← ih]

theorem digs_last {B : Nat} (hB : 2 ≤ B) (n x : Nat) (h : (digs B n).getLast? = some x) : x ≠ 0 := by
  induction n using Nat.strongRecOn with
  | ind n ih =>
    by_cases h0 : n = 0
    · subst h0; rw [digs_zero] at h; cases h
    · rw [digs_pos hB h0] at h
      by_cases h1 : n / B = 0
      · rw [h1, digs_zero] at h
        simp at h
        subst h
        have := Nat.mod_add_div n B
        rw [h1] at this
        omega
      · rw [digs_pos hB h1, List.getLast?_cons_cons, ← digs_pos hB h1] at h
        exact ih (n / B) (Nat.div_lt_self (by omega) (by omega)) h

theorem digs_snoc_zero {B : Nat} {l : List Nat} : val B (l ++ [0]) = val B l := by simp [val_append, val]

theorem digs_len {B : Nat} (hB : 2 ≤ B) : ∀ (k n : Nat), n < B ^ k → (digs B n).length ≤ k
  | 0, n, h => by
    have : n = 0 := by simpa using h
    subst this; rw [digs_zero]; simp
  | k + 1, n, h => by
    by_cases h0 : n = 0
    · subst h0; rw [digs_zero]; simp
    · rw [digs_pos hB h0]
      have : n / B < B ^ k := by
        rw [Nat.div_lt_iff_lt_mul (by omega)]
        rwa [Nat.pow_succ] at h
      have := digs_len hB k (n / B) this
      simp; omega
theorem digs_len_lt {B : Nat} (hB : 2 ≤ B) {n m : Nat} (h : (digs B n).length < (digs B m).length) : n < m := by
  rcases Nat.lt_or_ge n m with h1 | h1
  · exact h1
  · exfalso
    have h2 : n < B ^ (digs B n).length := by
      have := val_lt (show 0 < B by omega) (digs_ok hB n)
      rwa [val_digs hB] at this
    have := digs_len hB (digs B n).length m (by omega)
    omega
theorem digs_inj {B : Nat} (hB : 2 ≤ B) {n m : Nat} (h : digs B n = digs B m) : n = m := by
  rw [← val_digs hB n, h, val_digs hB]

/-- Two numbers of words that differ first (from the top) at one place. -/
theorem val_cmp {B : Nat} (hB : 2 ≤ B) {u v w : List Nat} {x y : Nat} (hu : Ok B u) (hl : u.length = v.length) (hxy : x < y) : val B (u ++ x :: w) < val B (v ++ y :: w) := by
  have h1 := val_lt (show 0 < B by omega) hu
  simp only [val_append, val, hl]
  rw [hl] at h1
  have h2 : B ^ v.length * (x + 1 + B * val B w) ≤ B ^ v.length * (y + B * val B w) := Nat.mul_le_mul_left _ (by omega)
  rw [show x + 1 + B * val B w = 1 + (x + B * val B w) by omega, Nat.mul_add] at h2
  omega

/-- One step of an addition with carry. -/
theorem add_step {B : Nat} {u v w : List Nat} {a b c s c' : Nat} (hB : 0 < B) (hl : u.length = v.length) (hw : u.length = w.length) (h : val B u + B ^ u.length * c = val B v + val B w) (hs : s + B * c' = a + b + c) :
    val B (u ++ [s]) + B ^ (u ++ [s]).length * c' = val B (v ++ [a]) + val B (w ++ [b]) := by
  simp only [val_append, val, List.length_append, List.length_cons, List.length_nil, Nat.pow_succ, Nat.mul_zero, Nat.add_zero, Nat.zero_add, Nat.pow_zero, Nat.one_mul, ← hl, ← hw]
  generalize hp : B ^ u.length = p at h ⊢
  have : p * (s + B * c') = p * (a + b + c) := by rw [hs]
  simp only [Nat.mul_add] at this
  rw [Nat.mul_assoc]
  omega
/-- One step of a subtraction with borrow. -/
theorem sub_step {B : Nat} {u v w : List Nat} {a b c s c' : Nat} (hB : 0 < B) (hl : u.length = v.length) (hw : u.length = w.length) (h : val B u + val B w = val B v + B ^ u.length * c) (hs : s + b + c = a + B * c') :
    val B (u ++ [s]) + val B (w ++ [b]) = val B (v ++ [a]) + B ^ (u ++ [s]).length * c' := by
  simp only [val_append, val, List.length_append, List.length_cons, List.length_nil, Nat.pow_succ, Nat.mul_zero, Nat.add_zero, Nat.zero_add, Nat.pow_zero, Nat.one_mul, ← hl, ← hw]
  generalize hp : B ^ u.length = p at h ⊢
  have : p * (s + b + c) = p * (a + B * c') := by rw [hs]
  simp only [Nat.mul_add] at this
  rw [Nat.mul_assoc]
  omega
/-- One step of a product with a word. -/
theorem mul_step {B : Nat} {u v : List Nat} {a k c s c' : Nat} (hl : u.length = v.length) (h : val B u + B ^ u.length * c = val B v * k) (hs : s + B * c' = a * k + c) :
    val B (u ++ [s]) + B ^ (u ++ [s]).length * c' = val B (v ++ [a]) * k := by
  simp only [val_append, val, List.length_append, List.length_cons, List.length_nil, Nat.pow_succ, Nat.mul_zero, Nat.add_zero, Nat.zero_add, Nat.pow_zero, Nat.one_mul, ← hl]
  generalize hp : B ^ u.length = p at h ⊢
  have : p * (s + B * c') = p * (a * k + c) := by rw [hs]
  simp only [Nat.mul_add] at this
  rw [Nat.mul_assoc, Nat.add_mul, Nat.mul_assoc p a k]
  omega

theorem trim_last {B : Nat} (hB : 2 ≤ B) {l : List Nat} (h : Ok B l) (hz : l = [] ∨ ∃ m x, l = m ++ [x] ∧ x ≠ 0) : l = digs B (val B l) := by
  refine eq_digs hB h fun x hx => ?_
  rcases hz with rfl | ⟨m, y, rfl, hy⟩
  · cases hx
  · simp at hx; subst hx; exact hy

end Go.Nt
