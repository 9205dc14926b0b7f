/-
  Texts of the library, one behind the other. Over any program; no condition.
-/
import Derived.Lib.Mul64
import Derived.Laws.Bits64b
import Derived.Test.YtmmnjelmahcbaaaGreatPkD
namespace Go.Nt
set_option linter.unusedSimpArgs false
set_option linter.unusedVariables false

def val (B : Nat) : List Nat → Nat
  | [] => 0
  | x :: l => x + B * val B l
def Ok (B : Nat) (l : List Nat) : Prop := ∀ x, x ∈ l → x < B
/-- The digits of a number. -/
def digs (B n : Nat) : List Nat := if h : n = 0 ∨ B < 2 then [] else n % B :: digs B (n / B)
termination_by n
decreasing_by exact Nat.div_lt_self (by omega) (by omega)

theorem digs_zero (B : Nat) : digs B 0 = [] := by rw [digs]; simp
theorem digs_pos {B n : Nat} (hB : 2 ≤ B) (hn : n ≠ 0) : digs B n = n % B :: digs B (n / B) := by
  rw [digs, dif_neg (by omega)]

theorem val_digs {B : Nat} (hB : 2 ≤ B) (n : Nat) : val B (digs B n) = n := by
  induction n using Nat.strongRecOn with
  | ind n ih =>
    by_cases h : n = 0
    · subst h; rw [digs_zero]; rfl
    · rw [digs_pos hB h, val, ih (n / B) (Nat.div_lt_self (by omega) (by omega))]
      exact Nat.mod_add_div n B
theorem digs_ok {B : Nat} (hB : 2 ≤ B) (n : Nat) : Ok B (digs B n) := by
  induction n using Nat.strongRecOn with
  | ind n ih =>
    by_cases h : n = 0
    · subst h; rw [digs_zero]; intro x hx; cases hx
    · rw [digs_pos hB h]
      intro x hx
      rcases List.mem_cons.1 hx with rfl | hx
      · exact Nat.mod_lt _ (by omega)
      · exact ih (n / B) (Nat.div_lt_self (by omega) (by omega)) x hx

theorem Ok.tail {B x : Nat} {l : List Nat} (h : Ok B (x :: l)) : Ok B l := fun y hy => h y (by simp [hy])
theorem Ok.head {B x : Nat} {l : List Nat} (h : Ok B (x :: l)) : x < B := h x (by simp)
theorem Ok.app {B : Nat} {l m : List Nat} (h : Ok B l) (h' : Ok B m) : Ok B (l ++ m) := fun x hx => (List.mem_append.1 hx).elim (h x) (h' x)
theorem Ok.left {B : Nat} {l m : List Nat} (h : Ok B (l ++ m)) : Ok B l := fun x hx => h x (by simp [hx])
theorem Ok.one {B x : Nat} (h : x < B) : Ok B [x] := fun y hy => by simp at hy; omega
theorem Ok.rep {B : Nat} (hB : 0 < B) (n : Nat) : Ok B (List.replicate n 0) := fun y hy => by rw [List.eq_of_mem_replicate hy]; exact hB

theorem val_append (B : Nat) : ∀ (l m : List Nat), val B (l ++ m) = val B l + B ^ l.length * val B m
  | [], m => by simp [val]
  | x :: l, m => by
    simp only [List.cons_append, val, val_append B l m, List.length_cons, Nat.pow_succ]
    rw [Nat.mul_add, Nat.add_assoc, ← Nat.mul_assoc, Nat.mul_comm B (B ^ l.length)]
theorem val_rep (B : Nat) : ∀ n, val B (List.replicate n 0) = 0
  | 0 => rfl
  | n + 1 => by simp [List.replicate_succ, val, val_rep B n]
theorem val_lt {B : Nat} (hB : 0 < B) : ∀ {l : List Nat}, Ok B l → val B l < B ^ l.length
  | [], _ => by simp [val]
  | x :: l, h => by
    have h1 := val_lt hB h.tail
    have h2 := h.head
    simp only [val, List.length_cons, Nat.pow_succ]
    have : B * (val B l + 1) ≤ B * B ^ l.length := Nat.mul_le_mul_left B h1
    rw [Nat.mul_comm (B ^ l.length) B]
    rw [Nat.mul_add] at this
    omega

/-- Without zeros at the end: the digits. -/
theorem eq_digs {B : Nat} (hB : 2 ≤ B) : ∀ {l : List Nat}, Ok B l → (∀ x, l.getLast? = some x → x ≠ 0) → l = digs B (val B l)
  | [], _, _ => by simp [val, digs_zero]
  | x :: l, h, hz => by
    have ih := eq_digs hB h.tail (fun y hy => by
      cases l with
      | nil => simp at hy
      | cons z l => exact hz y (by rw [List.getLast?_cons_cons]; exact hy))
    have hx := h.head
    have hne : val B (x :: l) ≠ 0 := by
      intro h0
      simp only [val] at h0
      have h1 : x = 0 := by omega
      have h2 : val B l = 0 := by
        have : B * val B l = 0 := by omega
        rcases Nat.mul_eq_zero.1 this with h3 | h3
        · omega
        · exact h3
      cases l with
      | nil => exact hz x rfl h1
      | cons z l =>
        rw [h2, digs_zero] at ih
        cases ih
    rw [digs_pos hB hne]
    simp only [val]
    rw [Nat.add_mul_mod_self_left, Nat.mod_eq_of_lt hx, Nat.add_mul_div_left _ _ (by omega), Nat.div_eq_of_lt hx, Nat.zero_add, ← ih]

theorem digs_snoc_zero {B : Nat} {l : List Nat} : val B (l ++ [0]) = val B l := by simp [val_append, val]

theorem digs_len {B : Nat} (hB : 2 ≤ B) : ∀ (k n : Nat), n < B ^ k → (digs B n).length ≤ k
  | 0, n, h => by
    have : n = 0 := by simpa using h
    subst this; rw [digs_zero]; simp
  | k + 1, n, h => by
    by_cases h0 : n = 0
    · subst h0; rw [digs_zero]; simp
    · rw [digs_pos hB h0]
      have : n / B < B ^ k := by
        rw [Nat.div_lt_iff_lt_mul (by omega)]
        rwa [Nat.pow_succ] at h
      have := digs_len hB k (n / B) this
      simp; omega
theorem digs_len_lt {B : Nat} (hB : 2 ≤ B) {n m : Nat} (h : (digs B n).length < (digs B m).length) : n < m := by
  rcases Nat.lt_or_ge n m with h1 | h1
  · exact h1
  · exfalso
    have h2 : n < B ^ (digs B n).length := by
      have := val_lt (show 0 < B by omega) (digs_ok hB n)
      rwa [val_digs hB] at this
    have := digs_len hB (digs B n).length m (by omega)
    omega
/-- Two numbers of words that differ first (from the top) at one place. -/
theorem val_cmp {B : Nat} (hB : 2 ≤ B) {u v w : List Nat} {x y : Nat} (hu : Ok B u) (hl : u.length = v.length) (hxy : x < y) : val B (u ++ x :: w) < val B (v ++ y :: w) := by
  have h1 := val_lt (show 0 < B by omega) hu
  simp only [val_append, val, hl]
  rw [hl] at h1
  have h2 : B ^ v.length * (x + 1 + B * val B w) ≤ B ^ v.length * (y + B * val B w) := Nat.mul_le_mul_left _ (by omega)
  rw [show x + 1 + B * val B w = 1 + (x + B * val B w) by omega, Nat.mul_add] at h2
  omega

/-- One step of an addition with carry. -/
theorem add_step {B : Nat} {u v w : List Nat} {a b c s c' : Nat} (hB : 0 < B) (hl : u.length = v.length) (hw : u.length = w.length) (h : val B u + B ^ u.length * c = val B v + val B w) (hs : s + B * c' = a + b + c) :
    val B (u ++ [s]) + B ^ (u ++ [s]).length * c' = val B (v ++ [a]) + val B (w ++ [b]) := by
  simp only [val_append, val, List.length_append, List.length_cons, List.length_nil, Nat.pow_succ, Nat.mul_zero, Nat.add_zero, Nat.zero_add, Nat.pow_zero, Nat.one_mul, ← hl, ← hw]
  generalize hp : B ^ u.length = p at h ⊢
  have : p * (s + B * c') = p * (a + b + c) := by rw [hs]
  simp only [Nat.mul_add] at this
  rw [Nat.mul_assoc]
  omega
/-- One step of a subtraction with borrow. -/
theorem sub_step {B : Nat} {u v w : List Nat} {a b c s c' : Nat} (hB : 0 < B) (hl : u.length = v.length) (hw : u.length = w.length) (h : val B u + val B w = val B v + B ^ u.length * c) (hs : s + b + c = a + B * c') :
    val B (u ++ [s]) + val B (w ++ [b]) = val B (v ++ [a]) + B ^ (u ++ [s]).length * c' := by
  simp only [val_append, val, List.length_append, List.length_cons, List.length_nil, Nat.pow_succ, Nat.mul_zero, Nat.add_zero, Nat.zero_add, Nat.pow_zero, Nat.one_mul, ← hl, ← hw]
  generalize hp : B ^ u.length = p at h ⊢
  have : p * (s + b + c) = p * (a + B * c') := by rw [hs]
  simp only [Nat.mul_add] at this
  rw [Nat.mul_assoc]
  omega
/-- One step of a product with a word. -/
theorem mul_step {B : Nat} {u v : List Nat} {a k c s c' : Nat} (hl : u.length = v.length) (h : val B u + B ^ u.length * c = val B v * k) (hs : s + B * c' = a * k + c) :
    val B (u ++ [s]) + B ^ (u ++ [s]).length * c' = val B (v ++ [a]) * k := by
  simp only [val_append, val, List.length_append, List.length_cons, List.length_nil, Nat.pow_succ, Nat.mul_zero, Nat.add_zero, Nat.zero_add, Nat.pow_zero, Nat.one_mul, ← hl]
  generalize hp : B ^ u.length = p at h ⊢
  have : p * (s + B * c') = p * (a * k + c) := by rw [hs]
  simp only [Nat.mul_add] at this
  rw [Nat.mul_assoc, Nat.add_mul, Nat.mul_assoc p a k]
  omega

theorem trim_last {B : Nat} (hB : 2 ≤ B) {l : List Nat} (h : Ok B l) (hz : l = [] ∨ ∃ m x, l = m ++ [x] ∧ x ≠ 0) : l = digs B (val B l) := by
  refine eq_digs hB h fun x hx => ?_
  rcases hz with rfl | ⟨m, y, rfl, hy⟩
  · cases hx
  · simp at hx; subst hx; exact hy

end Go.Nt

namespace Go.Aw
set_option linter.unusedSimpArgs false
set_option linter.unusedVariables false
open Go.RowKit Go.Proofs Go.Nt
abbrev B64 : Nat := 18446744073709551616
def encW (x : Nat) : List D := [.int .u64 x]
theorem encW_row {l : List Nat} {row : List D} (h : row ∈ l.map encW) : row.length = 1 ∧ row.all D.leaf = true := by
  obtain ⟨x, _, rfl⟩ := List.mem_map.1 h; exact ⟨rfl, rfl⟩

theorem round_endG {Q : Exit → St → Prop} {α : Type} {Φ : α → List Nat → St → Prop} {u : St} (y : α) (r : List Nat) (h : Φ y r u) : Then (fun u => ∃ y r, Φ y r u) Q .normal u := ⟨y, r, h⟩
theorem inblock_norm {id : Nat} {Q : Exit → St → Prop} {s : St} (h : Q .normal s) : InBlock id Q .normal s := h
theorem mid_end {kp : List Nat} {Q : Exit → St → Prop} {J : St → Prop} {t : St} (r : List Nat) (u : St) (h : J u) (hr : Ren kp r u t) : Then (fun t => ∃ r u, J u ∧ Ren kp r u t) Q .normal t := ⟨r, u, h, hr⟩

theorem p93 (l : List Nat) (hn : l.length ≤ 1000000) : PC Tryz.prog 88 [.sl (l.map encW)] fun x H => x = .ref 0 0 l.length ∧ H = [.data 1 (l.map encW)] := by
  refine pc_of (fn := Tryz.f88) [.tmp 2] (by kernel_rfl) rfl (by kernel_rfl) (Nat.le_of_ble_eq_true rfl) (by kernel_rfl) rfl ?_
  refine awp_seq ?_
  refine awpF_region ?_; intro K hK; simp only [push_cast, seval]; (try simp (disch := omega) only [wrapI]); (repeat ((with_reducible refine And.intro ?_ ?_); (focus (exact ob1)))); refine hK _ ?_; clear hK; clear K
  refine awp_seq ?_
  refine awp_seq ?_
  refine awpF_region ?_; intro K hK; simp only [push_cast, seval]
  refine ⟨?_, fun h0 => ?_⟩
  · refine hK _ ?_; clear hK; clear K
    apply awp_cond; (focus (simp only [push_cast, seval]; rfl))
    · intro h1; (try simp only [decide_eq_true_eq, decide_eq_false_iff_not, Bool.not_eq_true', Bool.not_eq_false', Bool.and_eq_true, Bool.or_eq_true, Bool.not_eq_true] at h1)
      cases h1
    intro h1; (try simp only [decide_eq_true_eq, decide_eq_false_iff_not, Bool.not_eq_true', Bool.not_eq_false', Bool.and_eq_true, Bool.or_eq_true, Bool.not_eq_true] at h1)
    refine awp_skip ?_
    refine awp_seq ?_
    refine awpF_region ?_; intro K hK; simp only [push_cast, seval]
    refine ⟨fun h => h, by omega, by omega, fun r h => encW_row h, ?_⟩
    refine hK _ ?_; clear hK; clear K
    refine awp_ret ?_; (repeat (first | refine then_ret ?_ | refine inblock_ret ?_)); refine fin_of (by simp only [push_cast, seval]; first | done | rfl) ob1 ?_
    exact ⟨rfl, rfl⟩
  · refine hK _ ?_; clear hK; clear K
    obtain rfl : l = [] := List.eq_nil_of_length_eq_zero h0
    apply awp_cond; (focus (simp only [push_cast, seval]; rfl))
    · intro h1; (try simp only [decide_eq_true_eq, decide_eq_false_iff_not, Bool.not_eq_true', Bool.not_eq_false', Bool.and_eq_true, Bool.or_eq_true, Bool.not_eq_true] at h1)
      refine awp_seq ?_
      refine awpF_region ?_; intro K hK; simp only [push_cast, seval]; (try simp (disch := omega) only [wrapI]); (repeat ((with_reducible refine And.intro ?_ ?_); (focus (exact ob1)))); refine hK _ ?_; clear hK; clear K
      refine awp_virt 2 1 rfl ?_
      refine awp_ret ?_; (repeat (first | refine then_ret ?_ | refine inblock_ret ?_)); refine fin_of (by simp only [push_cast, seval]; first | done | rfl) ob1 ?_
      exact ⟨rfl, rfl⟩
    intro h1; (try simp only [decide_eq_true_eq, decide_eq_false_iff_not, Bool.not_eq_true', Bool.not_eq_false', Bool.and_eq_true, Bool.or_eq_true, Bool.not_eq_true] at h1)
    cases h1

theorem p95 (l : List Nat) (hok : Ok B64 l) (hn : l.length ≤ 1000000) : PD Tryz.prog 90 [.sl (l.map encW)] (.d (.sl ((digs B64 (val B64 l)).map encW))) := by
  refine pd_of (fn := Tryz.f90) [.tmp 2] (by kernel_rfl) rfl (by kernel_rfl) (Nat.le_of_ble_eq_true rfl) (by kernel_rfl) rfl rfl ?_
  refine awp_seq ?_
  refine awpF_region ?_; intro K hK; simp only [push_cast, seval]; (try simp (disch := omega) only [wrapI]); (repeat ((with_reducible refine And.intro ?_ ?_); (focus (exact ob1)))); refine hK _ ?_; clear hK; clear K
  refine awp_seq ?_
  refine awp_block ?_
  refine awp_loopP (st := fun (m : List Nat) => ⟨[(0, .d (.sl (m.map encW)))], []⟩) (inv := fun m => Ok B64 m ∧ val B64 m = val B64 l ∧ m.length ≤ 1000000) (μ := fun m => m.length) (x0 := l) (r0 := []) ?_ ?_ ?_
  · exact ⟨hok, rfl, hn⟩
  · exact ⟨by simp, by simp, by simp [push_cast, seval], by simp [push_cast, seval], by simp [push_cast, seval], by simp [push_cast, seval]⟩
  rintro m ⟨hm, hv, hl⟩
  rcases Nat.eq_zero_or_pos m.length with h0 | h0
  · have hz : ((m.length : Int) > 0) = False := by simp [h0]
    refine awp_seq ?_
    refine awp_seq ?_
    have hx : ∀ i : Nat, m[i]? = none := fun i => by simp; omega
    refine awpF_region ?_; intro K hK; simp only [push_cast, seval, hz, hx]
    refine hK _ ?_; clear hK; clear K
    apply awp_cond; (focus (simp only [push_cast, seval]; rfl))
    · intro h1; (try simp only [decide_eq_true_eq, decide_eq_false_iff_not, Bool.not_eq_true', Bool.not_eq_false', Bool.and_eq_true, Bool.or_eq_true, Bool.not_eq_true] at h1)
      cases h1
    intro h1; (try simp only [decide_eq_true_eq, decide_eq_false_iff_not, Bool.not_eq_true', Bool.not_eq_false', Bool.and_eq_true, Bool.or_eq_true, Bool.not_eq_true] at h1)
    refine awp_exit ?_; (repeat (first | refine then_exit ?_ | refine inblock_other (by decide) ?_)); refine inblock_same ?_
    refine awp_seq ?_
    refine awpF_region ?_; intro K hK; simp only [push_cast, seval]; (try simp (disch := omega) only [wrapI]); (repeat ((with_reducible refine And.intro ?_ ?_); (focus (exact ob1)))); refine hK _ ?_; clear hK; clear K
    refine awp_ret ?_; (repeat (first | refine then_ret ?_ | refine inblock_ret ?_)); refine fin_of (by simp only [push_cast, seval]; first | done | rfl) ob1 ?_
    rw [← hv, List.eq_nil_of_length_eq_zero h0]
    simp [val, digs_zero]
  · obtain ⟨m', x, hmx⟩ : ∃ m' x, m = m' ++ [x] := by
      rcases List.eq_nil_or_concat m with rfl | ⟨m', x, h⟩
      · simp at h0
      · exact ⟨m', x, by simpa using h⟩
    have hml : m'.length + 1 = m.length := by simp [hmx]
    have hz : ((m.length : Int) > 0) = True := by simp; omega
    have hw : IntKind.i64.wrap ((m.length : Int) - 1) = (m'.length : Int) := by rw [wrapI _ (by omega)]; omega
    have hx : m[m'.length]? = some x := by simp [hmx]
    have hs : (m.map encW).take m'.length = m'.map encW := by rw [hmx, List.map_append, List.take_left' (by simp)]
    refine awp_seq ?_
    refine awp_seq ?_
    refine awpF_region ?_; intro K hK; simp only [push_cast, seval, hz, hw, hx, encW, Int.toNat_natCast]
    (repeat ((with_reducible refine And.intro ?_ ?_); (focus (exact ob1))))
    refine hK _ ?_; clear hK; clear K
    apply awp_cond; (focus (simp only [push_cast, seval]; rfl))
    · intro h1; (try simp only [decide_eq_true_eq, decide_eq_false_iff_not, Bool.not_eq_true', Bool.not_eq_false', Bool.and_eq_true, Bool.or_eq_true, Bool.not_eq_true] at h1)
      refine awp_skip ?_
      refine awp_block ?_
      refine awpF_region ?_; intro K hK; simp only [push_cast, seval, hz, hw, hs, encW, Int.toNat_natCast]
      (repeat ((with_reducible refine And.intro ?_ ?_); (focus (exact ob1))))
      refine hK _ ?_; clear hK; clear K
      refine inblock_norm ?_
      refine round_end (y := m') (r := []) (by omega) ⟨(hmx ▸ hm).left, ?_, by omega⟩ ?_
      · have hx0 : x = 0 := by simpa using h1
        rw [← hv, hmx, hx0, digs_snoc_zero]
      · rw [Nat.sub_zero, hs]; exact ⟨by simp, by simp, by simp [push_cast, seval], by simp [push_cast, seval], by simp [push_cast, seval], by simp [push_cast, seval]⟩
    · intro h1; (try simp only [decide_eq_true_eq, decide_eq_false_iff_not, Bool.not_eq_true', Bool.not_eq_false', Bool.and_eq_true, Bool.or_eq_true, Bool.not_eq_true] at h1)
      refine awp_exit ?_; (repeat (first | refine then_exit ?_ | refine inblock_other (by decide) ?_)); refine inblock_same ?_
      refine awp_seq ?_
      refine awpF_region ?_; intro K hK; simp only [push_cast, seval]; (try simp (disch := omega) only [wrapI]); (repeat ((with_reducible refine And.intro ?_ ?_); (focus (exact ob1)))); refine hK _ ?_; clear hK; clear K
      refine awp_ret ?_; (repeat (first | refine then_ret ?_ | refine inblock_ret ?_)); refine fin_of (by simp only [push_cast, seval]; first | done | rfl) ob1 ?_
      rw [← hv, ← trim_last (by decide) hm (.inr ⟨m', x, hmx, by simpa using h1⟩)]

theorem p92 (x : Nat) (hx : x < B64) : PD Tryz.prog 87 [.int .u64 x] (.d (.sl ((digs B64 x).map encW))) := by
  have h95 := p95 [x] (.one hx) (by simp)
  simp only [List.map_cons, List.map_nil, val, Nat.mul_zero, Nat.add_zero, encW] at h95
  refine pd_of (fn := Tryz.f87) [.tmp 2] (by kernel_rfl) rfl (by kernel_rfl) (Nat.le_of_ble_eq_true rfl) (by kernel_rfl) rfl rfl ?_
  refine awp_seq ?_
  refine awpF_region ?_; intro K hK; simp only [push_cast, seval]; (try simp (disch := omega) only [wrapI]); (repeat ((with_reducible refine And.intro ?_ ?_); (focus (exact ob1)))); refine hK _ ?_; clear hK; clear K
  refine awp_seq ?_
  refine awpF_region ?_; intro K hK; simp only [push_cast, seval]
  (repeat ((with_reducible refine And.intro ?_ ?_); (focus (exact ob1))))
  refine CallK.pd (h95) ?_; simp only [push_cast, seval]; (try simp (disch := omega) only [wrapI]); (repeat ((with_reducible refine And.intro ?_ ?_); (focus (exact ob1))))
  refine hK _ ?_; clear hK; clear K
  refine awp_ret ?_; (repeat (first | refine then_ret ?_ | refine inblock_ret ?_)); refine fin_of (by simp only [push_cast, seval]; first | done | rfl) ob1 ?_
  rfl

end Go.Aw

namespace Go.Aw
set_option linter.unusedSimpArgs false
set_option linter.unusedVariables false
open Go.RowKit Go.Proofs Go.Nt

/-- The first k words, with 0 where there are none. -/
def padW (l : List Nat) (k : Nat) : List Nat := (List.range k).map fun i => l[i]?.getD 0
theorem padW_len (l : List Nat) (k : Nat) : (padW l k).length = k := by simp [padW]
theorem padW_succ (l : List Nat) (k : Nat) : padW l (k + 1) = padW l k ++ [l[k]?.getD 0] := by simp [padW, List.range_succ]
theorem padW_all (B : Nat) : ∀ (l : List Nat) (k : Nat), l.length ≤ k → val B (padW l k) = val B l := by
  intro l k h
  have : padW l k = l ++ List.replicate (k - l.length) 0 := by
    apply List.ext_getElem
    · simp [padW]; omega
    · intro i h1 h2
      simp only [padW, List.getElem_map, List.getElem_range, List.getElem_append]
      split
      · rename_i h3; simp [h3]
      · rename_i h3; simp [List.getElem?_eq_none (Nat.le_of_not_lt h3)]
  rw [this, val_append, val_rep]; simp
theorem padW_id (l : List Nat) : padW l l.length = l := by
  apply List.ext_getElem
  · simp [padW]
  · intro i h1 h2
    simp [padW, h2]
theorem getD_lt {B : Nat} (hB : 0 < B) {l : List Nat} (h : Ok B l) (k : Nat) : l[k]?.getD 0 < B := by
  cases hk : l[k]? with
  | none => exact hB
  | some x => exact h x (List.mem_of_getElem? hk)

/-- The row while its first words are told anew. -/
def mixW (u l : List Nat) : List (List D) := (u ++ l.drop u.length).map encW
theorem mixW_len {u l : List Nat} (h : u.length ≤ l.length) : (mixW u l).length = l.length := by simp [mixW]; omega
theorem mixW_get {u l : List Nat} (h : u.length < l.length) : (mixW u l)[u.length]? = some (encW (l[u.length]?.getD 0)) := by
  unfold mixW
  rw [List.getElem?_map, List.getElem?_append_right (Nat.le_refl _), Nat.sub_self, List.getElem?_drop, Nat.add_zero]
  simp [h]
theorem mixW_set {u l : List Nat} (x : Nat) (h : u.length < l.length) : (mixW u l).set u.length (encW x) = mixW (u ++ [x]) l := by
  simp only [mixW, List.map_append, List.map_cons, List.map_nil, List.length_append, List.length_cons, List.length_nil, List.append_assoc]
  rw [List.set_append_right _ _ (by simp)]
  congr 1
  rw [List.length_map, Nat.sub_self, List.drop_eq_getElem_cons h]
  rfl
theorem mixW_nil (l : List Nat) : mixW [] l = l.map encW := by simp [mixW]
theorem mixW_all {u l : List Nat} (h : u.length = l.length) : mixW u l = u.map encW := by simp [mixW, h]

theorem a100 (l ys : List Nat) (hl : Ok B64 l) (hy : Ok B64 ys) (hle : ys.length ≤ l.length) (hn : l.length ≤ 1000000) : AC Tryz.prog 92 [.ref 0 0 l.length, .d (.sl (ys.map encW))] [.data 1 (l.map encW)] [0]
    fun x H => ∃ (m : List Nat) (c : Nat), x = .d (.int .u64 c) ∧ H = [.data 1 (m.map encW)] ∧ m.length = l.length ∧ Ok B64 m ∧ c ≤ 1 ∧ val B64 m + B64 ^ l.length * c = val B64 l + val B64 ys := by
  refine ac_ofF (fn := Tryz.f92) [.tmp 4] (by kernel_rfl) rfl (by kernel_rfl) (Nat.le_of_ble_eq_true rfl) (by kernel_rfl) rfl ?_
  refine awp_seq ?_
  refine awpF_region ?_; intro K hK; simp only [push_cast, seval]; (try simp (disch := omega) only [wrapI]); (repeat ((with_reducible refine And.intro ?_ ?_); (focus (exact ob1)))); refine hK _ ?_; clear hK; clear K
  refine awp_seq ?_
  refine awp_seq ?_
  refine awpF_region ?_; intro K hK; simp only [push_cast, seval]; (try simp (disch := omega) only [wrapI]); (repeat ((with_reducible refine And.intro ?_ ?_); (focus (exact ob1)))); refine hK _ ?_; clear hK; clear K
  refine awp_block ?_
  refine awp_loopP (st := fun (p : List Nat × Nat) => ⟨[(0, .ref 0 0 l.length), (1, .d (.sl (ys.map encW))), (4, .d (.int .u64 p.2)), (8, .d (.int .i64 l.length)), (9, .d (.int .i64 p.1.length))], [.data 1 (mixW p.1 l)]⟩)
    (inv := fun p => p.1.length ≤ l.length ∧ Ok B64 p.1 ∧ p.2 ≤ 1 ∧ val B64 p.1 + B64 ^ p.1.length * p.2 = val B64 (padW l p.1.length) + val B64 (padW ys p.1.length)) (μ := fun p => l.length - p.1.length) (x0 := ([], 0)) (r0 := [0]) ?_ ?_ ?_
  · exact ⟨Nat.zero_le _, fun x hx => (by cases hx), Nat.zero_le _, by simp [padW, val]⟩
  · simp only [mixW_nil]; exact ⟨by simp, by simp, by simp [push_cast, seval], by simp [push_cast, seval], by simp [push_cast, seval], by simp [push_cast, seval]⟩
  rintro ⟨u, c⟩ ⟨hul, hu, hc, hv⟩
  dsimp only at hul hu hc hv
  refine awp_seq ?_
  refine awpF_region ?_; intro K hK; simp only [push_cast, seval]; (try simp (disch := omega) only [wrapI]); (repeat ((with_reducible refine And.intro ?_ ?_); (focus (exact ob1)))); refine hK _ ?_; clear hK; clear K
  refine awp_seq ?_
  apply awp_cond; (focus (simp only [push_cast, seval]; rfl))
  · intro h1; (try simp only [decide_eq_true_eq, decide_eq_false_iff_not, Bool.not_eq_true', Bool.not_eq_false', Bool.and_eq_true, Bool.or_eq_true, Bool.not_eq_true] at h1)
    refine awp_skip ?_
    have hlt : u.length < l.length := by omega
    have hg := mixW_get hlt
    refine awp_seq ?_
    refine awp_block ?_
    refine awp_seq ?_
    refine awpF_region ?_; intro K hK; simp only [push_cast, seval]; (try simp (disch := omega) only [wrapI]); (repeat ((with_reducible refine And.intro ?_ ?_); (focus (exact ob1)))); refine hK _ ?_; clear hK; clear K
    refine awp_seq ?_
    refine awpF_region ?_; intro K hK; simp only [push_cast, seval]; (try simp (disch := omega) only [wrapI]); (repeat ((with_reducible refine And.intro ?_ ?_); (focus (exact ob1)))); refine hK _ ?_; clear hK; clear K
    refine awp_mid (fun t => t = ⟨[(0, .ref 0 0 l.length), (1, .d (.sl (ys.map encW))), (4, .d (.int .u64 c)), (5, .d (.int .i64 u.length)), (6, .d (.int .u64 (ys[u.length]?.getD 0 : Nat))), (8, .d (.int .i64 l.length)), (9, .d (.int .i64 u.length))], [.data 1 (mixW u l)]⟩) ?_ ?_
    · refine awp_seq ?_
      refine awpF_region ?_; intro K hK; simp only [push_cast, seval]; (try simp (disch := omega) only [wrapI]); (repeat ((with_reducible refine And.intro ?_ ?_); (focus (exact ob1)))); refine hK _ ?_; clear hK; clear K
      apply awp_cond; (focus (simp only [push_cast, seval]; rfl))
      · intro h2; (try simp only [decide_eq_true_eq, decide_eq_false_iff_not, Bool.not_eq_true', Bool.not_eq_false', Bool.and_eq_true, Bool.or_eq_true, Bool.not_eq_true] at h2)
        have hy2 : ys[u.length]? = some (ys[u.length]'(by omega)) := List.getElem?_eq_getElem _
        refine awpF_region ?_; intro K hK; simp only [push_cast, seval, hy2, encW, Int.toNat_natCast]
        (repeat ((with_reducible refine And.intro ?_ ?_); (focus (exact ob1))))
        refine hK _ ?_; clear hK; clear K
        refine mid_end [0] _ rfl ?_
        rw [hy2]
        exact ⟨by simp, by simp, by simp [push_cast, seval], by simp [push_cast, seval], by simp [push_cast, seval], by simp [push_cast, seval]⟩
      · intro h2; (try simp only [decide_eq_true_eq, decide_eq_false_iff_not, Bool.not_eq_true', Bool.not_eq_false', Bool.and_eq_true, Bool.or_eq_true, Bool.not_eq_true] at h2)
        have hy2 : ys[u.length]? = none := List.getElem?_eq_none (by omega)
        refine awp_skip ?_
        refine mid_end [0] _ rfl ?_
        rw [hy2]
        exact ⟨by simp, by simp, by simp [push_cast, seval], by simp [push_cast, seval], by simp [push_cast, seval], by simp [push_cast, seval]⟩
    rintro _ rfl
    have hla : l[u.length]?.getD 0 < 18446744073709551616 := getD_lt (by decide) hl u.length
    have hwb : ys[u.length]?.getD 0 < 18446744073709551616 := getD_lt (by decide) hy u.length
    have hset := mixW_set ((l[u.length]?.getD 0 + ys[u.length]?.getD 0 + c) % B64) hlt
    have hadd := add_step (B := B64) (a := l[u.length]?.getD 0) (b := ys[u.length]?.getD 0) (s := (l[u.length]?.getD 0 + ys[u.length]?.getD 0 + c) % B64) (c' := (l[u.length]?.getD 0 + ys[u.length]?.getD 0 + c) / B64) (by decide) (by rw [padW_len]) (by rw [padW_len]) hv (Nat.mod_add_div _ _)
    rw [← padW_succ, ← padW_succ] at hadd
    generalize hw : ys[u.length]?.getD 0 = w at hwb hset hadd ⊢
    generalize ha : l[u.length]?.getD 0 = a at hla hset hadd hg ⊢
    have e1 : ((a : Int) + w + c) / 18446744073709551616 = (((a + w + c) / B64 : Nat) : Int) := by simp
    have e2 : ((a : Int) + w + c) % 18446744073709551616 = (((a + w + c) % B64 : Nat) : Int) := by simp
    refine awpF_region ?_; intro K hK; simp only [push_cast, seval, mixW_len hul, hg, encW, Int.toNat_natCast]
    rw [e1, e2]
    (repeat ((with_reducible refine And.intro ?_ ?_); (focus (exact ob1))))
    refine hK _ ?_; clear hK; clear K
    refine inblock_norm ?_
    have hs := Nat.mod_lt (a + w + c) (show 0 < B64 by decide)
    have hc2 : (a + w + c) / B64 ≤ 1 := by omega
    rw [show [D.int IntKind.u64 (((a + w + c) % B64 : Nat) : Int)] = encW ((a + w + c) % B64) from rfl, hset]
    clear hset e1 e2
    generalize (a + w + c) % B64 = s at hs hadd ⊢
    generalize (a + w + c) / B64 = c' at hc2 hadd ⊢
    refine awpF_region ?_; intro K hK; simp only [push_cast, seval]; (try simp (disch := omega) only [wrapI]); (repeat ((with_reducible refine And.intro ?_ ?_); (focus (exact ob1)))); refine hK _ ?_; clear hK; clear K
    refine round_end (y := (u ++ [s], c')) (r := [0]) (by simp; omega) ⟨by simp; omega, hu.app (.one hs), hc2, by simpa only [List.length_append, List.length_cons, List.length_nil] using hadd⟩ ?_
    exact ⟨by simp, by simp, by simp [push_cast, seval], by simp [push_cast, seval], by simp [push_cast, seval], by simp [push_cast, seval]⟩
  · intro h1; (try simp only [decide_eq_true_eq, decide_eq_false_iff_not, Bool.not_eq_true', Bool.not_eq_false', Bool.and_eq_true, Bool.or_eq_true, Bool.not_eq_true] at h1)
    have he : u.length = l.length := by omega
    refine awp_exit ?_; (repeat (first | refine then_exit ?_ | refine inblock_other (by decide) ?_)); refine inblock_same ?_
    refine awp_seq ?_
    refine awpF_region ?_; intro K hK; simp only [push_cast, seval]; (try simp (disch := omega) only [wrapI]); (repeat ((with_reducible refine And.intro ?_ ?_); (focus (exact ob1)))); refine hK _ ?_; clear hK; clear K
    refine awp_ret ?_; (repeat (first | refine then_ret ?_ | refine inblock_ret ?_)); refine fin_of (by simp only [push_cast, seval]; first | done | rfl) ob1 ?_
    rw [he, padW_id, padW_all B64 ys _ hle] at hv
    exact ⟨u, c, rfl, by rw [mixW_all he], he, hu, hc, hv⟩

/-- One word less another one and a borrow. -/
theorem sub_word {a b c : Nat} (ha : a < 18446744073709551616) (hb : b < 18446744073709551616) (hc : c ≤ 1) : ∃ s c' : Nat, s < B64 ∧ c' ≤ 1 ∧ s + b + c = a + B64 * c' ∧
    (if (a : Int) < b + c then (1 : Int) else 0) = (c' : Int) ∧ ((a : Int) - b - c) % 18446744073709551616 = (s : Int) := by
  by_cases h : (a : Int) < b + c
  · refine ⟨a + 18446744073709551616 - b - c, 1, ?_, Nat.le_refl _, ?_, by simp [h], ?_⟩ <;> (try simp only [B64]) <;> omega
  · refine ⟨a - b - c, 0, ?_, Nat.zero_le _, ?_, by simp [h], ?_⟩ <;> (try simp only [B64]) <;> omega

theorem a94 (l ys : List Nat) (hl : Ok B64 l) (hy : Ok B64 ys) (hle : ys.length ≤ l.length) (hn : l.length ≤ 1000000) : AC Tryz.prog 89 [.ref 0 0 l.length, .d (.sl (ys.map encW))] [.data 1 (l.map encW)] [0]
    fun x H => ∃ (m : List Nat) (c : Nat), x = .d (.int .u64 c) ∧ H = [.data 1 (m.map encW)] ∧ m.length = l.length ∧ Ok B64 m ∧ c ≤ 1 ∧ val B64 m + val B64 ys = val B64 l + B64 ^ l.length * c := by
  refine ac_ofF (fn := Tryz.f89) [.tmp 4] (by kernel_rfl) rfl (by kernel_rfl) (Nat.le_of_ble_eq_true rfl) (by kernel_rfl) rfl ?_
  refine awp_seq ?_
  refine awpF_region ?_; intro K hK; simp only [push_cast, seval]; (try simp (disch := omega) only [wrapI]); (repeat ((with_reducible refine And.intro ?_ ?_); (focus (exact ob1)))); refine hK _ ?_; clear hK; clear K
  refine awp_seq ?_
  refine awp_seq ?_
  refine awpF_region ?_; intro K hK; simp only [push_cast, seval]; (try simp (disch := omega) only [wrapI]); (repeat ((with_reducible refine And.intro ?_ ?_); (focus (exact ob1)))); refine hK _ ?_; clear hK; clear K
  refine awp_block ?_
  refine awp_loopP (st := fun (p : List Nat × Nat) => ⟨[(0, .ref 0 0 l.length), (1, .d (.sl (ys.map encW))), (4, .d (.int .u64 p.2)), (8, .d (.int .i64 l.length)), (9, .d (.int .i64 p.1.length))], [.data 1 (mixW p.1 l)]⟩)
    (inv := fun p => p.1.length ≤ l.length ∧ Ok B64 p.1 ∧ p.2 ≤ 1 ∧ val B64 p.1 + val B64 (padW ys p.1.length) = val B64 (padW l p.1.length) + B64 ^ p.1.length * p.2) (μ := fun p => l.length - p.1.length) (x0 := ([], 0)) (r0 := [0]) ?_ ?_ ?_
  · exact ⟨Nat.zero_le _, fun x hx => (by cases hx), Nat.zero_le _, by simp [padW, val]⟩
  · simp only [mixW_nil]; exact ⟨by simp, by simp, by simp [push_cast, seval], by simp [push_cast, seval], by simp [push_cast, seval], by simp [push_cast, seval]⟩
  rintro ⟨u, c⟩ ⟨hul, hu, hc, hv⟩
  dsimp only at hul hu hc hv
  refine awp_seq ?_
  refine awpF_region ?_; intro K hK; simp only [push_cast, seval]; (try simp (disch := omega) only [wrapI]); (repeat ((with_reducible refine And.intro ?_ ?_); (focus (exact ob1)))); refine hK _ ?_; clear hK; clear K
  refine awp_seq ?_
  apply awp_cond; (focus (simp only [push_cast, seval]; rfl))
  · intro h1; (try simp only [decide_eq_true_eq, decide_eq_false_iff_not, Bool.not_eq_true', Bool.not_eq_false', Bool.and_eq_true, Bool.or_eq_true, Bool.not_eq_true] at h1)
    refine awp_skip ?_
    have hlt : u.length < l.length := by omega
    have hg := mixW_get hlt
    refine awp_seq ?_
    refine awp_block ?_
    refine awp_seq ?_
    refine awpF_region ?_; intro K hK; simp only [push_cast, seval]; (try simp (disch := omega) only [wrapI]); (repeat ((with_reducible refine And.intro ?_ ?_); (focus (exact ob1)))); refine hK _ ?_; clear hK; clear K
    refine awp_seq ?_
    refine awpF_region ?_; intro K hK; simp only [push_cast, seval]; (try simp (disch := omega) only [wrapI]); (repeat ((with_reducible refine And.intro ?_ ?_); (focus (exact ob1)))); refine hK _ ?_; clear hK; clear K
    refine awp_mid (fun t => t = ⟨[(0, .ref 0 0 l.length), (1, .d (.sl (ys.map encW))), (4, .d (.int .u64 c)), (5, .d (.int .i64 u.length)), (6, .d (.int .u64 (ys[u.length]?.getD 0 : Nat))), (8, .d (.int .i64 l.length)), (9, .d (.int .i64 u.length))], [.data 1 (mixW u l)]⟩) ?_ ?_
    · refine awp_seq ?_
      refine awpF_region ?_; intro K hK; simp only [push_cast, seval]; (try simp (disch := omega) only [wrapI]); (repeat ((with_reducible refine And.intro ?_ ?_); (focus (exact ob1)))); refine hK _ ?_; clear hK; clear K
      apply awp_cond; (focus (simp only [push_cast, seval]; rfl))
      · intro h2; (try simp only [decide_eq_true_eq, decide_eq_false_iff_not, Bool.not_eq_true', Bool.not_eq_false', Bool.and_eq_true, Bool.or_eq_true, Bool.not_eq_true] at h2)
        have hy2 : ys[u.length]? = some (ys[u.length]'(by omega)) := List.getElem?_eq_getElem _
        refine awpF_region ?_; intro K hK; simp only [push_cast, seval, hy2, encW, Int.toNat_natCast]
        (repeat ((with_reducible refine And.intro ?_ ?_); (focus (exact ob1))))
        refine hK _ ?_; clear hK; clear K
        refine mid_end [0] _ rfl ?_
        rw [hy2]
        exact ⟨by simp, by simp, by simp [push_cast, seval], by simp [push_cast, seval], by simp [push_cast, seval], by simp [push_cast, seval]⟩
      · intro h2; (try simp only [decide_eq_true_eq, decide_eq_false_iff_not, Bool.not_eq_true', Bool.not_eq_false', Bool.and_eq_true, Bool.or_eq_true, Bool.not_eq_true] at h2)
        have hy2 : ys[u.length]? = none := List.getElem?_eq_none (by omega)
        refine awp_skip ?_
        refine mid_end [0] _ rfl ?_
        rw [hy2]
        exact ⟨by simp, by simp, by simp [push_cast, seval], by simp [push_cast, seval], by simp [push_cast, seval], by simp [push_cast, seval]⟩
    rintro _ rfl
    have hla : l[u.length]?.getD 0 < 18446744073709551616 := getD_lt (by decide) hl u.length
    have hwb : ys[u.length]?.getD 0 < 18446744073709551616 := getD_lt (by decide) hy u.length
    obtain ⟨s, c', hs, hc2, hst, e1, e2⟩ := sub_word hla hwb hc
    have hset := mixW_set s hlt
    have hadd := sub_step (B := B64) (by decide) (by rw [padW_len]) (by rw [padW_len]) hv hst
    rw [← padW_succ, ← padW_succ] at hadd
    generalize hw : ys[u.length]?.getD 0 = w at hwb hadd e1 e2 ⊢
    generalize ha : l[u.length]?.getD 0 = a at hla hadd hg e1 e2 ⊢
    refine awpF_region ?_; intro K hK; simp only [push_cast, seval, mixW_len hul, hg, encW, Int.toNat_natCast]
    try rw [e1, e2]
    trace_state
    (repeat ((with_reducible refine And.intro ?_ ?_); (focus (exact ob1))))
    refine hK _ ?_; clear hK; clear K
    refine inblock_norm ?_
    rw [show [D.int IntKind.u64 ((s : Nat) : Int)] = encW s from rfl, hset]
    clear hset e1 e2
    refine awpF_region ?_; intro K hK; simp only [push_cast, seval]; (try simp (disch := omega) only [wrapI]); (repeat ((with_reducible refine And.intro ?_ ?_); (focus (exact ob1)))); refine hK _ ?_; clear hK; clear K
    refine round_end (y := (u ++ [s], c')) (r := [0]) (by simp; omega) ⟨by simp; omega, hu.app (.one hs), hc2, by simpa only [List.length_append, List.length_cons, List.length_nil] using hadd⟩ ?_
    exact ⟨by simp, by simp, by simp [push_cast, seval], by simp [push_cast, seval], by simp [push_cast, seval], by simp [push_cast, seval]⟩
  · intro h1; (try simp only [decide_eq_true_eq, decide_eq_false_iff_not, Bool.not_eq_true', Bool.not_eq_false', Bool.and_eq_true, Bool.or_eq_true, Bool.not_eq_true] at h1)
    have he : u.length = l.length := by omega
    refine awp_exit ?_; (repeat (first | refine then_exit ?_ | refine inblock_other (by decide) ?_)); refine inblock_same ?_
    refine awp_seq ?_
    refine awpF_region ?_; intro K hK; simp only [push_cast, seval]; (try simp (disch := omega) only [wrapI]); (repeat ((with_reducible refine And.intro ?_ ?_); (focus (exact ob1)))); refine hK _ ?_; clear hK; clear K
    refine awp_ret ?_; (repeat (first | refine then_ret ?_ | refine inblock_ret ?_)); refine fin_of (by simp only [push_cast, seval]; first | done | rfl) ob1 ?_
    rw [he, padW_id, padW_all B64 ys _ hle] at hv
    exact ⟨u, c, rfl, by rw [mixW_all he], he, hu, hc, hv⟩

end Go.Aw

namespace Go.Aw
set_option linter.unusedSimpArgs false
set_option linter.unusedVariables false
open Go.RowKit Go.Proofs Go.Nt

theorem uwn (n : Nat) (h : n < 18446744073709551616) : IntKind.u64.wrap (n : Int) = n := by rw [IntKind.wrap_u64]; omega
theorem uand (n : Nat) (h : n < 18446744073709551616) : bits .and .u64 (n : Int) 4294967295 = ((n % 4294967296 : Nat) : Int) := by
  have := bits_and_u64_nat n 4294967295 h (by decide)
  rw [show ((4294967295 : Nat) : Int) = 4294967295 from rfl] at this
  rw [this, show 4294967295 = 2 ^ 32 - 1 from rfl, Nat.and_two_pow_sub_one_eq_mod]
theorem udiv (n : Nat) : (n : Int) / 4294967296 = ((n / 4294967296 : Nat) : Int) := by omega

/-- The steps of a product of two words. -/
theorem mul_facts (x y : Nat) (hx : x < 18446744073709551616) (hy : y < 18446744073709551616) : ∃ a0 a1 b0 b1 w0 q t t0 t1 r u v v1 hi lo : Int,
    bits .and .u64 (x : Int) 4294967295 = a0 ∧ (x : Int) / 4294967296 = a1 ∧ bits .and .u64 (y : Int) 4294967295 = b0 ∧ (y : Int) / 4294967296 = b1 ∧ IntKind.u64.wrap (a0 * b0) = w0 ∧ IntKind.u64.wrap (a1 * b0) = q ∧
    IntKind.u64.wrap (q + w0 / 4294967296) = t ∧ bits .and .u64 t 4294967295 = t0 ∧ t / 4294967296 = t1 ∧ IntKind.u64.wrap (a0 * b1) = r ∧ IntKind.u64.wrap (t0 + r) = u ∧ IntKind.u64.wrap (a1 * b1) = v ∧ IntKind.u64.wrap (v + t1) = v1 ∧
    IntKind.u64.wrap (v1 + u / 4294967296) = hi ∧ IntKind.u64.wrap ((x : Int) * y) = lo ∧ hi = ((x * y / 18446744073709551616 : Nat) : Int) ∧ lo = ((x * y % 18446744073709551616 : Nat) : Int) := by
  refine ⟨_, _, _, _, _, _, _, _, _, _, _, _, _, _, _, rfl, rfl, rfl, rfl, rfl, rfl, rfl, rfl, rfl, rfl, rfl, rfl, rfl, rfl, rfl, ?_, ?_⟩
  · obtain ⟨h1, h2, h3, h4⟩ := Lib.mul64_hi x y hx hy
    have hb : x * y / 18446744073709551616 < 18446744073709551616 := by
      have : x * y < 18446744073709551616 * 18446744073709551616 := Nat.mul_lt_mul'' hx hy
      omega
    rw [← h4] at hb ⊢
    rw [uand x hx, udiv x, uand y hy, udiv y]
    simp only [← Int.natCast_mul]
    generalize x % 4294967296 * (y % 4294967296) = a at *
    generalize x / 4294967296 * (y % 4294967296) = b at *
    generalize x % 4294967296 * (y / 4294967296) = c at *
    generalize x / 4294967296 * (y / 4294967296) = d at *
    rw [uwn a h1, udiv a, uwn b (by omega), ← Int.natCast_add, uwn _ h2, uand _ h2, udiv (b + a / 4294967296), uwn c (by omega), ← Int.natCast_add, uwn _ h3, udiv, uwn d (by omega), ← Int.natCast_add, uwn _ (by omega), ← Int.natCast_add, uwn _ hb]
  · rw [← Int.natCast_mul, IntKind.wrap_u64]; omega

theorem p119 (x y : Nat) (hx : x < 18446744073709551616) (hy : y < 18446744073709551616) : PD Tryz.prog 110 [.int .u64 x, .int .u64 y] (.tup [.d (.int .u64 ((x * y / 18446744073709551616 : Nat) : Int)), .d (.int .u64 ((x * y % 18446744073709551616 : Nat) : Int))]) := by
  obtain ⟨a0, a1, b0, b1, w0, q, t, t0, t1, r, u, v, v1, hi, lo, e1, e2, e3, e4, e5, e6, e7, e8, e9, e10, e11, e12, e13, e14, e15, e16, e17⟩ := mul_facts x y hx hy
  rw [← e16, ← e17]
  clear e16 e17
  refine pd_of (fn := Tryz.f110) [.tmp 4, .tmp 5] (by kernel_rfl) rfl (by kernel_rfl) (Nat.le_of_ble_eq_true rfl) (by kernel_rfl) rfl rfl ?_
  refine awp_seq ?_
  refine awpF_region ?_; intro K hK; simp only [push_cast, seval]; (try simp (disch := omega) only [wrapI]); (repeat ((with_reducible refine And.intro ?_ ?_); (focus (exact ob1)))); refine hK _ ?_; clear hK; clear K
  refine awp_seq ?_
  refine awpF_region ?_; intro K hK; simp only [push_cast, seval, e1]; (try simp (disch := omega) only [wrapI]); (repeat ((with_reducible refine And.intro ?_ ?_); (focus (exact ob1)))); refine hK _ ?_; clear hK; clear K
  refine awp_seq ?_
  refine awpF_region ?_; intro K hK; simp only [push_cast, seval, e2]; (try simp (disch := omega) only [wrapI]); (repeat ((with_reducible refine And.intro ?_ ?_); (focus (exact ob1)))); refine hK _ ?_; clear hK; clear K
  refine awp_seq ?_
  refine awpF_region ?_; intro K hK; simp only [push_cast, seval, e3]; (try simp (disch := omega) only [wrapI]); (repeat ((with_reducible refine And.intro ?_ ?_); (focus (exact ob1)))); refine hK _ ?_; clear hK; clear K
  refine awp_seq ?_
  refine awpF_region ?_; intro K hK; simp only [push_cast, seval, e4]; (try simp (disch := omega) only [wrapI]); (repeat ((with_reducible refine And.intro ?_ ?_); (focus (exact ob1)))); refine hK _ ?_; clear hK; clear K
  refine awp_seq ?_
  refine awpF_region ?_; intro K hK; simp only [push_cast, seval, e5]; (try simp (disch := omega) only [wrapI]); (repeat ((with_reducible refine And.intro ?_ ?_); (focus (exact ob1)))); refine hK _ ?_; clear hK; clear K
  refine awp_seq ?_
  refine awpF_region ?_; intro K hK; simp only [push_cast, seval, e6, e7]; (try simp (disch := omega) only [wrapI]); (repeat ((with_reducible refine And.intro ?_ ?_); (focus (exact ob1)))); refine hK _ ?_; clear hK; clear K
  refine awp_seq ?_
  refine awpF_region ?_; intro K hK; simp only [push_cast, seval, e8]; (try simp (disch := omega) only [wrapI]); (repeat ((with_reducible refine And.intro ?_ ?_); (focus (exact ob1)))); refine hK _ ?_; clear hK; clear K
  refine awp_seq ?_
  refine awpF_region ?_; intro K hK; simp only [push_cast, seval, e9]; (try simp (disch := omega) only [wrapI]); (repeat ((with_reducible refine And.intro ?_ ?_); (focus (exact ob1)))); refine hK _ ?_; clear hK; clear K
  refine awp_seq ?_
  refine awpF_region ?_; intro K hK; simp only [push_cast, seval, e10, e11]; (try simp (disch := omega) only [wrapI]); (repeat ((with_reducible refine And.intro ?_ ?_); (focus (exact ob1)))); refine hK _ ?_; clear hK; clear K
  refine awp_seq ?_
  refine awpF_region ?_; intro K hK; simp only [push_cast, seval, e12, e13, e14]; (try simp (disch := omega) only [wrapI]); (repeat ((with_reducible refine And.intro ?_ ?_); (focus (exact ob1)))); refine hK _ ?_; clear hK; clear K
  refine awp_seq ?_
  refine awpF_region ?_; intro K hK; simp only [push_cast, seval, e15]; (try simp (disch := omega) only [wrapI]); (repeat ((with_reducible refine And.intro ?_ ?_); (focus (exact ob1)))); refine hK _ ?_; clear hK; clear K
  refine awp_ret ?_; (repeat (first | refine then_ret ?_ | refine inblock_ret ?_)); refine fin_of (by simp only [push_cast, seval]; first | done | rfl) ob1 ?_
  rfl

/-- A word times a word, and a carry. -/
theorem mul_word {a k c : Nat} (ha : a < 18446744073709551616) (hk : k < 18446744073709551616) (hc : c < 18446744073709551616) : ∃ h lo s m c' : Nat, h < B64 ∧ lo < B64 ∧ s < B64 ∧ c' < B64 ∧ s + B64 * c' = a * k + c ∧
    ((a * k / 18446744073709551616 : Nat) : Int) = (h : Int) ∧ ((a * k % 18446744073709551616 : Nat) : Int) = (lo : Int) ∧
    ((lo : Int) + c + 0) % 18446744073709551616 = (s : Int) ∧ ((lo : Int) + c + 0) / 18446744073709551616 = (m : Int) ∧ IntKind.u64.wrap ((h : Int) + m) = (c' : Int) := by
  have hb : a * k ≤ 18446744073709551615 * 18446744073709551615 := Nat.mul_le_mul (by omega) (by omega)
  generalize a * k = p at hb ⊢
  refine ⟨p / 18446744073709551616, p % 18446744073709551616, (p + c) % 18446744073709551616, (p % 18446744073709551616 + c) / 18446744073709551616, (p + c) / 18446744073709551616, ?_, ?_, ?_, ?_, ?_, rfl, rfl, ?_, ?_, ?_⟩
  all_goals (try simp only [B64])
  all_goals first | omega | (rw [IntKind.wrap_u64]; omega)

theorem a96 (l : List Nat) (k : Nat) (hl : Ok B64 l) (hk : k < 18446744073709551616) (hn : l.length ≤ 1000000) : AC Tryz.prog 91 [.ref 0 0 l.length, .d (.int .u64 k)] [.data 1 (l.map encW)] [0]
    fun x H => ∃ (m : List Nat) (c : Nat), x = .d (.int .u64 c) ∧ H = [.data 1 (m.map encW)] ∧ m.length = l.length ∧ Ok B64 m ∧ c < B64 ∧ val B64 m + B64 ^ l.length * c = val B64 l * k := by
  refine ac_ofF (fn := Tryz.f91) [.tmp 4] (by kernel_rfl) rfl (by kernel_rfl) (Nat.le_of_ble_eq_true rfl) (by kernel_rfl) rfl ?_
  refine awp_seq ?_
  refine awpF_region ?_; intro K hK; simp only [push_cast, seval]; (try simp (disch := omega) only [wrapI]); (repeat ((with_reducible refine And.intro ?_ ?_); (focus (exact ob1)))); refine hK _ ?_; clear hK; clear K
  refine awp_seq ?_
  refine awp_seq ?_
  refine awpF_region ?_; intro K hK; simp only [push_cast, seval]; (try simp (disch := omega) only [wrapI]); (repeat ((with_reducible refine And.intro ?_ ?_); (focus (exact ob1)))); refine hK _ ?_; clear hK; clear K
  refine awp_block ?_
  refine awp_loopP (st := fun (p : List Nat × Nat) => ⟨[(0, .ref 0 0 l.length), (1, .d (.int .u64 k)), (4, .d (.int .u64 p.2)), (11, .d (.int .i64 l.length)), (12, .d (.int .i64 p.1.length))], [.data 1 (mixW p.1 l)]⟩)
    (inv := fun p => p.1.length ≤ l.length ∧ Ok B64 p.1 ∧ p.2 < B64 ∧ val B64 p.1 + B64 ^ p.1.length * p.2 = val B64 (padW l p.1.length) * k) (μ := fun p => l.length - p.1.length) (x0 := ([], 0)) (r0 := [0]) ?_ ?_ ?_
  · exact ⟨Nat.zero_le _, fun x hx => (by cases hx), by decide, by simp [padW, val]⟩
  · simp only [mixW_nil]; exact ⟨by simp, by simp, by simp [push_cast, seval], by simp [push_cast, seval], by simp [push_cast, seval], by simp [push_cast, seval]⟩
  rintro ⟨u, c⟩ ⟨hul, hu, hc, hv⟩
  dsimp only at hul hu hc hv
  refine awp_seq ?_
  refine awpF_region ?_; intro K hK; simp only [push_cast, seval]; (try simp (disch := omega) only [wrapI]); (repeat ((with_reducible refine And.intro ?_ ?_); (focus (exact ob1)))); refine hK _ ?_; clear hK; clear K
  refine awp_seq ?_
  apply awp_cond; (focus (simp only [push_cast, seval]; rfl))
  · intro h1; (try simp only [decide_eq_true_eq, decide_eq_false_iff_not, Bool.not_eq_true', Bool.not_eq_false', Bool.and_eq_true, Bool.or_eq_true, Bool.not_eq_true] at h1)
    refine awp_skip ?_
    have hlt : u.length < l.length := by omega
    have hg := mixW_get hlt
    have hla : l[u.length]?.getD 0 < 18446744073709551616 := getD_lt (by decide) hl u.length
    obtain ⟨h, lo, s, mo, c', hh, hlo, hs, hc2, hst, e1, e2, e3, e4, e5⟩ := mul_word hla hk hc
    have hset := mixW_set s hlt
    have hadd := mul_step (B := B64) (by rw [padW_len]) hv hst
    rw [← padW_succ] at hadd
    generalize ha : l[u.length]?.getD 0 = a at hla hadd hg e1 e2 ⊢
    have h119 := p119 a k hla hk
    rw [e1, e2] at h119
    have hh2 : h < 18446744073709551616 := hh
    have hlo2 : lo < 18446744073709551616 := hlo
    have hc3 : c < 18446744073709551616 := hc
    refine awp_seq ?_
    refine awp_block ?_
    refine awp_seq ?_
    refine awpF_region ?_; intro K hK; simp only [push_cast, seval]; (try simp (disch := omega) only [wrapI]); (repeat ((with_reducible refine And.intro ?_ ?_); (focus (exact ob1)))); refine hK _ ?_; clear hK; clear K
    refine awp_seq ?_
    refine awpF_region ?_; intro K hK; simp only [push_cast, seval, mixW_len hul, hg, encW, Int.toNat_natCast]
    (repeat ((with_reducible refine And.intro ?_ ?_); (focus (exact ob1))))
    refine CallK.pd (h119) ?_; simp only [push_cast, seval]; (try simp (disch := omega) only [wrapI]); (repeat ((with_reducible refine And.intro ?_ ?_); (focus (exact ob1))))
    refine hK _ ?_; clear hK; clear K
    refine awp_seq ?_
    refine awpF_region ?_; intro K hK; simp only [push_cast, seval, e3, e4]; (try simp (disch := omega) only [wrapI]); (repeat ((with_reducible refine And.intro ?_ ?_); (focus (exact ob1)))); refine hK _ ?_; clear hK; clear K
    refine awpF_region ?_; intro K hK; simp only [push_cast, seval, mixW_len hul, e5, Int.toNat_natCast]
    (repeat ((with_reducible refine And.intro ?_ ?_); (focus (exact ob1))))
    refine hK _ ?_; clear hK; clear K
    refine inblock_norm ?_
    rw [show [D.int IntKind.u64 ((s : Nat) : Int)] = encW s from rfl, hset]
    clear hset e1 e2 e3 e4 e5
    refine awpF_region ?_; intro K hK; simp only [push_cast, seval]; (try simp (disch := omega) only [wrapI]); (repeat ((with_reducible refine And.intro ?_ ?_); (focus (exact ob1)))); refine hK _ ?_; clear hK; clear K
    refine round_end (y := (u ++ [s], c')) (r := [0]) (by simp; omega) ⟨by simp; omega, hu.app (.one hs), hc2, by simpa only [List.length_append, List.length_cons, List.length_nil] using hadd⟩ ?_
    exact ⟨by simp, by simp, by simp [push_cast, seval], by simp [push_cast, seval], by simp [push_cast, seval], by simp [push_cast, seval]⟩
  · intro h1; (try simp only [decide_eq_true_eq, decide_eq_false_iff_not, Bool.not_eq_true', Bool.not_eq_false', Bool.and_eq_true, Bool.or_eq_true, Bool.not_eq_true] at h1)
    have he : u.length = l.length := by omega
    refine awp_exit ?_; (repeat (first | refine then_exit ?_ | refine inblock_other (by decide) ?_)); refine inblock_same ?_
    refine awp_seq ?_
    refine awpF_region ?_; intro K hK; simp only [push_cast, seval]; (try simp (disch := omega) only [wrapI]); (repeat ((with_reducible refine And.intro ?_ ?_); (focus (exact ob1)))); refine hK _ ?_; clear hK; clear K
    refine awp_ret ?_; (repeat (first | refine then_ret ?_ | refine inblock_ret ?_)); refine fin_of (by simp only [push_cast, seval]; first | done | rfl) ob1 ?_
    rw [he, padW_id] at hv
    exact ⟨u, c, rfl, by rw [mixW_all he], he, hu, hc, hv⟩

end Go.Aw

namespace Go.Aw
set_option linter.unusedSimpArgs false
set_option linter.unusedVariables false
open Go.RowKit Go.Proofs Go.Nt

/-- How many words. -/
def nw (n : Nat) : Nat := (digs B64 n).length

theorem take_app {m : List Nat} {n : Nat} (h : m.length = n) {r : List D} : List.take (n + 1) (List.take n (List.map encW m) ++ [r]) = List.map encW m ++ [r] := by
  rw [List.take_of_length_le (i := n) (by simp; omega), List.take_of_length_le (by simp; omega)]
theorem val_one (B : Nat) (m : List Nat) (c : Nat) : val B (m ++ [c]) = val B m + B ^ m.length * c := by simp [val_append, val]
theorem digs_mono {B : Nat} (hB : 2 ≤ B) {n m : Nat} (h : n ≤ m) : (digs B n).length ≤ (digs B m).length := by
  rcases Nat.lt_or_ge (digs B m).length (digs B n).length with h1 | h1
  · have := digs_len_lt hB h1; omega
  · exact h1

theorem p67 (a b : Nat) (ha : nw a ≤ 500000) (hb : nw b ≤ 500000) : PD Tryz.prog 61 [(Go.Aw.D.sl ((digs B64 (a)).map encW)), (Go.Aw.D.sl ((digs B64 (b)).map encW))] (.d ((Go.Aw.D.sl ((digs B64 (a + b)).map encW)))) := by
  unfold nw at *
  refine pd_of (fn := Tryz.f61) [.tmp 4] (by kernel_rfl) rfl (by kernel_rfl) (Nat.le_of_ble_eq_true rfl) (by kernel_rfl) rfl rfl ?_
  refine awp_seq ?_
  refine awpF_region ?_; intro K hK; simp only [push_cast, seval]; (try simp (disch := omega) only [wrapI]); (repeat ((with_reducible refine And.intro ?_ ?_); (focus (exact ob1)))); refine hK _ ?_; clear hK; clear K
  refine awp_mid (fun t => ∃ x y : Nat, x + y = a + b ∧ (digs B64 x).length ≤ 500000 ∧ (digs B64 y).length ≤ (digs B64 x).length ∧ t = ⟨[(0, .d (.sl ((digs B64 x).map encW))), (1, .d (.sl ((digs B64 y).map encW)))], []⟩) ?_ ?_
  · refine awp_seq ?_
    refine awpF_region ?_; intro K hK; simp only [push_cast, seval]; (try simp (disch := omega) only [wrapI]); (repeat ((with_reducible refine And.intro ?_ ?_); (focus (exact ob1)))); refine hK _ ?_; clear hK; clear K
    apply awp_cond; (focus (simp only [push_cast, seval]; rfl))
    · intro h1; (try simp only [decide_eq_true_eq, decide_eq_false_iff_not, Bool.not_eq_true', Bool.not_eq_false', Bool.and_eq_true, Bool.or_eq_true, Bool.not_eq_true] at h1)
      refine awpF_region ?_; intro K hK; simp only [push_cast, seval]; (try simp (disch := omega) only [wrapI]); (repeat ((with_reducible refine And.intro ?_ ?_); (focus (exact ob1)))); refine hK _ ?_; clear hK; clear K
      refine mid_end [] _ ⟨b, a, Nat.add_comm _ _, hb, by omega, rfl⟩ ?_
      exact ⟨by simp, by simp, by simp [push_cast, seval], by simp [push_cast, seval], by simp [push_cast, seval], by simp [push_cast, seval]⟩
    · intro h1; (try simp only [decide_eq_true_eq, decide_eq_false_iff_not, Bool.not_eq_true', Bool.not_eq_false', Bool.and_eq_true, Bool.or_eq_true, Bool.not_eq_true] at h1)
      refine awp_skip ?_
      refine mid_end [] _ ⟨a, b, rfl, ha, by omega, rfl⟩ ?_
      exact ⟨by simp, by simp, by simp [push_cast, seval], by simp [push_cast, seval], by simp [push_cast, seval], by simp [push_cast, seval]⟩
  rintro _ ⟨x, y, hxy, hx, hyx, rfl⟩
  have hox := digs_ok (B := B64) (by decide) x
  have hoy := digs_ok (B := B64) (by decide) y
  have hvx := val_digs (B := B64) (by decide) x
  have hvy := val_digs (B := B64) (by decide) y
  generalize digs B64 x = dx at *
  generalize digs B64 y = dy at *
  have h93 := p93 dx (by omega)
  have h100 := a100 dx dy hox hoy hyx (by omega)
  refine awp_seq ?_
  refine awpF_region ?_; intro K hK; simp only [push_cast, seval]
  refine CallK.rel h93 ?_
  rintro _ _ ⟨rfl, rfl⟩
  simp only [push_cast, seval]
  refine hK _ ?_; clear hK; clear K
  refine awp_seq ?_
  refine awpF_regionH [3] ?_; intro K hK; simp only [push_cast, seval, List.zipIdx_cons, List.zipIdx_nil]
  refine HeapK.mk _ h100 ?_
  intro x' H' hR
  obtain ⟨m, c, hx', hH', hml, hom, hc, hv⟩ := hR
  subst hx'
  subst hH'
  have h95 := p95 (m ++ [c]) (hom.app (.one (Nat.lt_of_le_of_lt hc (by decide)))) (by simp; omega)
  rw [List.map_append, show List.map encW [c] = [[D.int .u64 c]] from rfl] at h95
  simp only [push_cast, seval]
  rw [take_app hml]
  refine ⟨fun h => h, by omega, by omega, ?_⟩
  refine CallK.pd (h95) ?_; simp only [push_cast, seval]; (try simp (disch := omega) only [wrapI]); (repeat ((with_reducible refine And.intro ?_ ?_); (focus (exact ob1))))
  refine hK _ ?_; clear hK; clear K
  refine awp_ret ?_; (repeat (first | refine then_ret ?_ | refine inblock_ret ?_)); refine fin_of (by simp only [push_cast, seval]; first | done | rfl) ob1 ?_
  have e : val B64 (m ++ [c]) = a + b := by rw [val_one, hml, hv, hvx, hvy, hxy]
  rw [e]

theorem p55 (a b : Nat) (ha : nw a ≤ 500000) (hba : b ≤ a) : PD Tryz.prog 55 [(Go.Aw.D.sl ((digs B64 (a)).map encW)), (Go.Aw.D.sl ((digs B64 (b)).map encW))] (.d ((Go.Aw.D.sl ((digs B64 (a - b)).map encW)))) := by
  have hlen := digs_mono (B := B64) (by decide) hba
  unfold nw at *
  have hoy := digs_ok (B := B64) (by decide) b
  have hox := digs_ok (B := B64) (by decide) a
  have hvx := val_digs (B := B64) (by decide) a
  have hvy := val_digs (B := B64) (by decide) b
  generalize digs B64 a = dx at *
  generalize digs B64 b = dy at *
  have h93 := p93 dx (by omega)
  have h94 := a94 dx dy hox hoy hlen (by omega)
  refine pd_of (fn := Tryz.f55) [.tmp 4] (by kernel_rfl) rfl (by kernel_rfl) (Nat.le_of_ble_eq_true rfl) (by kernel_rfl) rfl rfl ?_
  refine awp_seq ?_
  refine awpF_region ?_; intro K hK; simp only [push_cast, seval]; (try simp (disch := omega) only [wrapI]); (repeat ((with_reducible refine And.intro ?_ ?_); (focus (exact ob1)))); refine hK _ ?_; clear hK; clear K
  refine awp_seq ?_
  refine awpF_region ?_; intro K hK; simp only [push_cast, seval]
  refine CallK.rel h93 ?_
  rintro _ _ ⟨rfl, rfl⟩
  simp only [push_cast, seval]
  refine hK _ ?_; clear hK; clear K
  refine awp_seq ?_
  refine awpF_regionH [2] ?_; intro K hK; simp only [push_cast, seval, List.zipIdx_cons, List.zipIdx_nil]
  refine HeapK.mk _ h94 ?_
  intro x' H' hR
  obtain ⟨m, c, hx', hH', hml, hom, hc, hv⟩ := hR
  subst hx'
  subst hH'
  simp only [push_cast, seval]
  refine hK _ ?_; clear hK; clear K
  have hm2 := val_lt (B := B64) (by decide) hom
  rw [hml] at hm2
  have h95 := p95 m hom (by omega)
  have e : val B64 m = a - b := by
    rw [hvx, hvy] at hv
    rcases Nat.eq_zero_or_pos c with h0 | h0
    · rw [h0, Nat.mul_zero] at hv; omega
    · obtain rfl : c = 1 := by omega
      rw [Nat.mul_one] at hv; omega
  refine awp_seq ?_
  refine awpF_region ?_; intro K hK; simp only [push_cast, seval]
  rw [show List.take dx.length (List.map encW m) = List.map encW m from List.take_of_length_le (by simp; omega)]
  refine CallK.pd (h95) ?_; simp only [push_cast, seval]; (try simp (disch := omega) only [wrapI]); (repeat ((with_reducible refine And.intro ?_ ?_); (focus (exact ob1))))
  refine hK _ ?_; clear hK; clear K
  refine awp_ret ?_; (repeat (first | refine then_ret ?_ | refine inblock_ret ?_)); refine fin_of (by simp only [push_cast, seval]; first | done | rfl) ob1 ?_
  rw [e]

theorem p56 (a k : Nat) (ha : nw a ≤ 500000) (hk : k < 18446744073709551616) : PD Tryz.prog 56 [(Go.Aw.D.sl ((digs B64 (a)).map encW)), .int .u64 k] (.d ((Go.Aw.D.sl ((digs B64 (a * k)).map encW)))) := by
  unfold nw at *
  have hox := digs_ok (B := B64) (by decide) a
  have hvx := val_digs (B := B64) (by decide) a
  generalize digs B64 a = dx at *
  have h93 := p93 dx (by omega)
  have h96 := a96 dx k hox hk (by omega)
  refine pd_of (fn := Tryz.f56) [.tmp 4] (by kernel_rfl) rfl (by kernel_rfl) (Nat.le_of_ble_eq_true rfl) (by kernel_rfl) rfl rfl ?_
  refine awp_seq ?_
  refine awpF_region ?_; intro K hK; simp only [push_cast, seval]; (try simp (disch := omega) only [wrapI]); (repeat ((with_reducible refine And.intro ?_ ?_); (focus (exact ob1)))); refine hK _ ?_; clear hK; clear K
  refine awp_seq ?_
  refine awpF_region ?_; intro K hK; simp only [push_cast, seval]
  refine CallK.rel h93 ?_
  rintro _ _ ⟨rfl, rfl⟩
  simp only [push_cast, seval]
  refine hK _ ?_; clear hK; clear K
  refine awp_seq ?_
  refine awpF_regionH [3] ?_; intro K hK; simp only [push_cast, seval, List.zipIdx_cons, List.zipIdx_nil]
  refine HeapK.mk _ h96 ?_
  intro x' H' hR
  obtain ⟨m, c, hx', hH', hml, hom, hc, hv⟩ := hR
  subst hx'
  subst hH'
  have h95 := p95 (m ++ [c]) (hom.app (.one hc)) (by simp; omega)
  rw [List.map_append, show List.map encW [c] = [[D.int .u64 c]] from rfl] at h95
  simp only [push_cast, seval]
  rw [take_app hml]
  refine ⟨fun h => h, by omega, by omega, ?_⟩
  refine CallK.pd (h95) ?_; simp only [push_cast, seval]; (try simp (disch := omega) only [wrapI]); (repeat ((with_reducible refine And.intro ?_ ?_); (focus (exact ob1))))
  refine hK _ ?_; clear hK; clear K
  refine awp_ret ?_; (repeat (first | refine then_ret ?_ | refine inblock_ret ?_)); refine fin_of (by simp only [push_cast, seval]; first | done | rfl) ob1 ?_
  have e : val B64 (m ++ [c]) = a * k := by rw [val_one, hml, hv, hvx]
  rw [e]


/-- Two lists that differ at one place and not behind it. -/
theorem split_at {l : List Nat} {k : Nat} (h : k < l.length) : l = l.take k ++ (l[k]?.getD 0) :: l.drop (k + 1) := by
  rw [List.getElem?_eq_getElem h, Option.getD_some, ← List.drop_eq_getElem_cons h, List.take_append_drop]

theorem p54 (a b : Nat) (ha : nw a ≤ 500000) (hb : nw b ≤ 500000) : PC Tryz.prog 54 [(Go.Aw.D.sl ((digs B64 (a)).map encW)), (Go.Aw.D.sl ((digs B64 (b)).map encW))] fun x H => ∃ c : Int, x = .d (.int .i64 c) ∧ H = [] ∧ (c < 0 ↔ a < b) ∧ (c = 0 ↔ a = b) := by
  have hab : (digs B64 a).length < (digs B64 b).length → a < b := digs_len_lt (by decide)
  have hba : (digs B64 b).length < (digs B64 a).length → b < a := digs_len_lt (by decide)
  unfold nw at *
  have hoy := digs_ok (B := B64) (by decide) b
  have hox := digs_ok (B := B64) (by decide) a
  have hvx := val_digs (B := B64) (by decide) a
  have hvy := val_digs (B := B64) (by decide) b
  generalize digs B64 a = dx at *
  generalize digs B64 b = dy at *
  refine pc_of (fn := Tryz.f54) [.tmp 4] (by kernel_rfl) rfl (by kernel_rfl) (Nat.le_of_ble_eq_true rfl) (by kernel_rfl) rfl ?_
  refine awp_seq ?_
  refine awpF_region ?_; intro K hK; simp only [push_cast, seval]; (try simp (disch := omega) only [wrapI]); (repeat ((with_reducible refine And.intro ?_ ?_); (focus (exact ob1)))); refine hK _ ?_; clear hK; clear K
  refine awp_seq ?_
  refine awp_seq ?_
  refine awpF_region ?_; intro K hK; simp only [push_cast, seval]; (try simp (disch := omega) only [wrapI]); (repeat ((with_reducible refine And.intro ?_ ?_); (focus (exact ob1)))); refine hK _ ?_; clear hK; clear K
  apply awp_cond; (focus (simp only [push_cast, seval]; rfl))
  · intro h1; (try simp only [decide_eq_true_eq, decide_eq_false_iff_not, Bool.not_eq_true', Bool.not_eq_false', Bool.and_eq_true, Bool.or_eq_true, Bool.not_eq_true] at h1)
    refine awp_seq ?_
    refine awpF_region ?_; intro K hK; simp only [push_cast, seval]; (try simp (disch := omega) only [wrapI]); (repeat ((with_reducible refine And.intro ?_ ?_); (focus (exact ob1)))); refine hK _ ?_; clear hK; clear K
    refine awp_ret ?_; (repeat (first | refine then_ret ?_ | refine inblock_ret ?_)); refine fin_of (by simp only [push_cast, seval]; first | done | rfl) ob1 ?_
    have hne : dx.length ≠ dy.length := by simp only [bne_iff_ne] at h1; omega
    exact ⟨_, rfl, rfl, by omega, by omega⟩
  · intro h1; (try simp only [decide_eq_true_eq, decide_eq_false_iff_not, Bool.not_eq_true', Bool.not_eq_false', Bool.and_eq_true, Bool.or_eq_true, Bool.not_eq_true] at h1)
    have hl : dx.length = dy.length := by simp only [bne_eq_false_iff_eq] at h1; omega
    refine awp_skip ?_
    refine awp_seq ?_
    refine awp_seq ?_
    refine awpF_region ?_; intro K hK; simp only [push_cast, seval]; (try simp (disch := omega) only [wrapI]); (repeat ((with_reducible refine And.intro ?_ ?_); (focus (exact ob1)))); refine hK _ ?_; clear hK; clear K
    refine awp_block ?_
    refine awp_loopP (st := fun (k : Nat) => ⟨[(0, .d (.sl (dx.map encW))), (1, .d (.sl (dy.map encW))), (5, .d (.int .i64 ((k : Int) - 1)))], []⟩) (inv := fun k => k ≤ dx.length ∧ dx.drop k = dy.drop k) (μ := fun k => k) (x0 := dx.length) (r0 := []) ?_ ?_ ?_
    · exact ⟨Nat.le_refl _, by rw [List.drop_length, hl, List.drop_length]⟩
    · exact ⟨by simp, by simp, by simp [push_cast, seval], by simp [push_cast, seval], by simp [push_cast, seval], by simp [push_cast, seval]⟩
    rintro k ⟨hk, hd⟩
    rcases Nat.eq_zero_or_pos k with h0 | h0
    · have hz : ((k : Int) - 1 ≥ 0) = False := by simp; omega
      refine awp_seq ?_
      refine awp_seq ?_
      refine awpF_region ?_; intro K hK; simp only [push_cast, seval, hz]; (try simp (disch := omega) only [wrapI]); (repeat ((with_reducible refine And.intro ?_ ?_); (focus (exact ob1)))); refine hK _ ?_; clear hK; clear K
      apply awp_cond; (focus (simp only [push_cast, seval]; rfl))
      · intro h2; (try simp only [decide_eq_true_eq, decide_eq_false_iff_not, Bool.not_eq_true', Bool.not_eq_false', Bool.and_eq_true, Bool.or_eq_true, Bool.not_eq_true] at h2)
        cases h2
      intro h2; (try simp only [decide_eq_true_eq, decide_eq_false_iff_not, Bool.not_eq_true', Bool.not_eq_false', Bool.and_eq_true, Bool.or_eq_true, Bool.not_eq_true] at h2)
      refine awp_exit ?_; (repeat (first | refine then_exit ?_ | refine inblock_other (by decide) ?_)); refine inblock_same ?_
      refine awp_seq ?_
      refine awpF_region ?_; intro K hK; simp only [push_cast, seval]; (try simp (disch := omega) only [wrapI]); (repeat ((with_reducible refine And.intro ?_ ?_); (focus (exact ob1)))); refine hK _ ?_; clear hK; clear K
      refine awp_ret ?_; (repeat (first | refine then_ret ?_ | refine inblock_ret ?_)); refine fin_of (by simp only [push_cast, seval]; first | done | rfl) ob1 ?_
      have e : a = b := by rw [h0, List.drop_zero, List.drop_zero] at hd; rw [← hvx, ← hvy, hd]
      exact ⟨0, rfl, rfl, by omega, by omega⟩
    · obtain ⟨j, rfl⟩ : ∃ j, k = j + 1 := ⟨k - 1, by omega⟩
      have hi : (((j + 1 : Nat) : Int) - 1) = (j : Int) := by omega
      have hi2 : (((j : Int) + 1) - 1) = (j : Int) := by omega
      have hz : ((j : Int) ≥ 0) = True := by simp
      have gx := List.getElem?_eq_getElem (l := dx) (i := j) (by omega)
      have gy := List.getElem?_eq_getElem (l := dy) (i := j) (by omega)
      have sx := split_at (l := dx) (k := j) (by omega)
      have sy := split_at (l := dy) (k := j) (by omega)
      rw [gx, Option.getD_some] at sx
      rw [gy, Option.getD_some] at sy
      have lx : (dx.take j).length = (dy.take j).length := by simp; omega
      have ox : Ok B64 (dx.take j) := fun z hz => hox z (List.mem_of_mem_take hz)
      have oy : Ok B64 (dy.take j) := fun z hz => hoy z (List.mem_of_mem_take hz)
      generalize dx[j]'(by omega) = x at gx sx
      generalize dy[j]'(by omega) = y at gy sy
      refine awp_seq ?_
      refine awp_seq ?_
      refine awpF_region ?_; intro K hK; simp only [push_cast, seval, hi, hi2, hz]; (try simp (disch := omega) only [wrapI]); (repeat ((with_reducible refine And.intro ?_ ?_); (focus (exact ob1)))); refine hK _ ?_; clear hK; clear K
      apply awp_cond; (focus (simp only [push_cast, seval]; rfl))
      · intro h2; (try simp only [decide_eq_true_eq, decide_eq_false_iff_not, Bool.not_eq_true', Bool.not_eq_false', Bool.and_eq_true, Bool.or_eq_true, Bool.not_eq_true] at h2)
        refine awp_skip ?_
        refine awp_seq ?_
        refine awp_block ?_
        refine awp_seq ?_
        refine awpF_draw [0,1,2,3,4,5,6,7,8] (by kernel_rfl) (by kernel_rfl) rfl ?_; intro K hK; simp only [push_cast, seval, hi, hi2, gx, gy, encW, Int.toNat_natCast]
        (repeat ((with_reducible refine And.intro ?_ ?_); (focus (exact ob1))))
        refine hK _ ?_; clear hK; clear K
        apply awp_cond; (focus (simp only [push_cast, seval]; rfl))
        · intro h3; (try simp only [decide_eq_true_eq, decide_eq_false_iff_not, Bool.not_eq_true', Bool.not_eq_false', Bool.and_eq_true, Bool.or_eq_true, Bool.not_eq_true] at h3)
          have hxy : x ≠ y := by simp only [bne_iff_ne] at h3; omega
          refine awp_seq ?_
          refine awp_seq ?_
          refine awpF_draw [0,1,2,3,4,5,6,7,8] (by kernel_rfl) (by kernel_rfl) rfl ?_; intro K hK; simp only [push_cast, seval, hi, hi2, gx, gy, encW, Int.toNat_natCast]
          (repeat ((with_reducible refine And.intro ?_ ?_); (focus (exact ob1))))
          refine hK _ ?_; clear hK; clear K
          apply awp_cond; (focus (simp only [push_cast, seval]; rfl))
          · intro h4; (try simp only [decide_eq_true_eq, decide_eq_false_iff_not, Bool.not_eq_true', Bool.not_eq_false', Bool.and_eq_true, Bool.or_eq_true, Bool.not_eq_true] at h4)
            refine awp_seq ?_
            refine awpF_region ?_; intro K hK; simp only [push_cast, seval]; (try simp (disch := omega) only [wrapI]); (repeat ((with_reducible refine And.intro ?_ ?_); (focus (exact ob1)))); refine hK _ ?_; clear hK; clear K
            refine awp_ret ?_; (repeat (first | refine then_ret ?_ | refine inblock_ret ?_)); refine fin_of (by simp only [push_cast, seval]; first | done | rfl) ob1 ?_
            have := val_cmp (B := B64) (w := dx.drop (j + 1)) (by decide) ox lx (show x < y by omega)
            rw [← sx, hd, ← sy, hvx, hvy] at this
            exact ⟨-1, rfl, rfl, by omega, by omega⟩
          · intro h4; (try simp only [decide_eq_true_eq, decide_eq_false_iff_not, Bool.not_eq_true', Bool.not_eq_false', Bool.and_eq_true, Bool.or_eq_true, Bool.not_eq_true] at h4)
            refine awp_skip ?_
            refine awp_seq ?_
            refine awpF_region ?_; intro K hK; simp only [push_cast, seval]; (try simp (disch := omega) only [wrapI]); (repeat ((with_reducible refine And.intro ?_ ?_); (focus (exact ob1)))); refine hK _ ?_; clear hK; clear K
            refine awp_ret ?_; (repeat (first | refine then_ret ?_ | refine inblock_ret ?_)); refine fin_of (by simp only [push_cast, seval]; first | done | rfl) ob1 ?_
            have := val_cmp (B := B64) (w := dy.drop (j + 1)) (by decide) oy lx.symm (show y < x by omega)
            rw [← sy, ← hd, ← sx, hvx, hvy] at this
            exact ⟨1, rfl, rfl, by omega, by omega⟩
        · intro h3; (try simp only [decide_eq_true_eq, decide_eq_false_iff_not, Bool.not_eq_true', Bool.not_eq_false', Bool.and_eq_true, Bool.or_eq_true, Bool.not_eq_true] at h3)
          have hxy : x = y := by simp only [bne_eq_false_iff_eq] at h3; omega
          refine awp_skip ?_
          refine inblock_norm ?_
          refine awpF_region ?_; intro K hK; simp only [push_cast, seval, hi, hi2]; (try simp (disch := omega) only [wrapI]); (repeat ((with_reducible refine And.intro ?_ ?_); (focus (exact ob1)))); refine hK _ ?_; clear hK; clear K
          refine round_end (y := j) (r := []) (by omega) ⟨by omega, ?_⟩ ?_
          · rw [List.drop_eq_getElem_cons (by omega : j < dx.length), List.drop_eq_getElem_cons (by omega : j < dy.length), hd]
            have e1 : dx[j]'(by omega) = x := by
              have := List.getElem?_eq_getElem (l := dx) (i := j) (by omega)
              rw [gx] at this; simpa using this.symm
            have e2 : dy[j]'(by omega) = y := by
              have := List.getElem?_eq_getElem (l := dy) (i := j) (by omega)
              rw [gy] at this; simpa using this.symm
            rw [e1, e2, hxy]
          · exact ⟨by simp, by simp, by simp [push_cast, seval], by simp [push_cast, seval], by simp [push_cast, seval], by simp [push_cast, seval]⟩
      · intro h2; (try simp only [decide_eq_true_eq, decide_eq_false_iff_not, Bool.not_eq_true', Bool.not_eq_false', Bool.and_eq_true, Bool.or_eq_true, Bool.not_eq_true] at h2)
        cases h2

end Go.Aw

namespace Go.Aw
set_option linter.unusedSimpArgs false
set_option linter.unusedVariables false
open Go.RowKit Go.Proofs Go.Nt

theorem nw_mul (a b : Nat) : nw (a * b) ≤ nw a + nw b := by
  unfold nw
  have ha := val_lt (B := B64) (by decide) (digs_ok (by decide) a)
  have hb := val_lt (B := B64) (by decide) (digs_ok (by decide) b)
  rw [val_digs (by decide)] at ha hb
  refine digs_len (by decide) _ _ ?_
  rw [Nat.pow_add]
  exact Nat.mul_lt_mul'' ha hb
theorem nw_mono {a b : Nat} (h : a ≤ b) : nw a ≤ nw b := digs_mono (by decide) h

theorem val_take {B : Nat} : ∀ (k : Nat) (l : List Nat), val B (l.take k) ≤ val B l
  | 0, l => by simp [val]
  | k + 1, [] => by simp
  | k + 1, x :: l => by
    simp only [List.take_succ_cons, val]
    have := Nat.mul_le_mul_left B (val_take (B := B) k l)
    omega

set_option maxRecDepth 10000 in
theorem p66 (a b : Nat) (ha : nw a ≤ 100000) (hb : nw b ≤ 100000) : PD Tryz.prog 60 [(Go.Aw.D.sl ((digs B64 (a)).map encW)), (Go.Aw.D.sl ((digs B64 (b)).map encW))] (.d ((Go.Aw.D.sl ((digs B64 (a * b)).map encW)))) := by
  have hoy := digs_ok (B := B64) (by decide) b
  have hvy := val_digs (B := B64) (by decide) b
  have hby : (digs B64 b).length = nw b := rfl
  generalize digs B64 b = dy at *
  refine pd_of (fn := Tryz.f60) [.tmp 4] (by kernel_rfl) rfl (by kernel_rfl) (Nat.le_of_ble_eq_true rfl) (by kernel_rfl) rfl rfl ?_
  refine awp_seq ?_
  refine awpF_region ?_; intro K hK; simp only [push_cast, seval]; (try simp (disch := omega) only [wrapI]); (repeat ((with_reducible refine And.intro ?_ ?_); (focus (exact ob1)))); refine hK _ ?_; clear hK; clear K
  refine awp_seq ?_
  refine awpF_region ?_; intro K hK; simp only [push_cast, seval]; (try simp (disch := omega) only [wrapI]); (repeat ((with_reducible refine And.intro ?_ ?_); (focus (exact ob1)))); refine hK _ ?_; clear hK; clear K
  refine awp_seq ?_
  refine awp_seq ?_
  refine awpF_region ?_; intro K hK; simp only [push_cast, seval]; (try simp (disch := omega) only [wrapI]); (repeat ((with_reducible refine And.intro ?_ ?_); (focus (exact ob1)))); refine hK _ ?_; clear hK; clear K
  refine awp_virt 5 1 rfl ?_
  simp only [push_cast, seval]
  refine awp_frz 0 ?_
  simp only [push_cast, seval]
  refine awp_block ?_
  refine awp_loopP (st := fun (k : Nat) => ⟨[(0, .d ((Go.Aw.D.sl ((digs B64 (a)).map encW)))), (5, .d ((Go.Aw.D.sl ((digs B64 (a * val B64 (dy.take k))).map encW)))), (8, .d (.sl (dy.map encW))), (9, .d (.int .i64 dy.length)), (10, .d (.int .i64 k))], []⟩) (inv := fun k => k ≤ dy.length) (μ := fun k => dy.length - k) (x0 := 0) (r0 := []) ?_ ?_ ?_
  · exact Nat.zero_le _
  · have e : (digs B64 (a * val B64 (dy.take 0))).map encW = [] := by simp [val, digs_zero]
    rw [e]
    exact ⟨by simp, by simp, by simp [push_cast, seval], by simp [push_cast, seval], by simp [push_cast, seval], by simp [push_cast, seval]⟩
  intro k hk
  refine awp_seq ?_
  refine awpF_region ?_; intro K hK; simp only [push_cast, seval]; (try simp (disch := omega) only [wrapI]); (repeat ((with_reducible refine And.intro ?_ ?_); (focus (exact ob1)))); refine hK _ ?_; clear hK; clear K
  refine awp_seq ?_
  apply awp_cond; (focus (simp only [push_cast, seval]; rfl))
  · intro h1; (try simp only [decide_eq_true_eq, decide_eq_false_iff_not, Bool.not_eq_true', Bool.not_eq_false', Bool.and_eq_true, Bool.or_eq_true, Bool.not_eq_true] at h1)
    refine awp_skip ?_
    have hlt : k < dy.length := by omega
    have gy := List.getElem?_eq_getElem (l := dy) (i := k) hlt
    have hw := hoy _ (List.getElem_mem hlt)
    have ht : dy.take (k + 1) = dy.take k ++ [dy[k]] := (List.take_append_getElem hlt).symm
    generalize dy[k] = w at gy hw ht
    have h56 := p56 a w (by omega) hw
    have hlw : (digs B64 (a * w)).length ≤ 100001 := by have h1 := nw_mul a w; have h2 := digs_len (B := B64) (by decide) 1 w (by simpa using hw); simp only [nw] at h1 ha; omega
    have hk1 : k ≤ 100000 := by omega
    have ok0 : Ok B64 (List.replicate k 0 ++ digs B64 (a * w)) := (Ok.rep (by decide) k).app (digs_ok (by decide) _)
    have h95 := p95 _ ok0 (by simp only [List.length_append, List.length_replicate]; omega)
    rw [List.map_append, List.map_replicate, show encW 0 = [D.int .u64 0] from rfl, show (digs B64 (a * w)).map encW = (digs B64 (a * w)).map encW from rfl] at h95
    have hval : val B64 (List.replicate k 0 ++ digs B64 (a * w)) = B64 ^ k * (a * w) := by rw [val_append, val_rep, List.length_replicate, Nat.zero_add, val_digs (by decide)]
    rw [hval] at h95
    have hsum : a * val B64 (dy.take k) + B64 ^ k * (a * w) = a * val B64 (dy.take (k + 1)) := by
      rw [ht, val_one, List.length_take, Nat.min_eq_left hk, Nat.mul_add, Nat.mul_left_comm a]
    have hfit := nw_mono (Nat.mul_le_mul_left a (val_take (B := B64) (k + 1) dy))
    have hmul := nw_mul a b
    rw [hvy] at hfit
    have h67 := p67 (a * val B64 (dy.take k)) (B64 ^ k * (a * w)) (by have := nw_mono (show a * val B64 (dy.take k) ≤ a * val B64 (dy.take (k + 1)) by omega); omega) (by have := nw_mono (show B64 ^ k * (a * w) ≤ a * val B64 (dy.take (k + 1)) by omega); omega)
    rw [hsum] at h67
    clear hsum hval
    generalize hq : B64 ^ k * (a * w) = q at h95 h67
    generalize hp : a * val B64 (dy.take k) = p at h67 ⊢
    clear hq ok0
    generalize digs B64 (a * w) = dw at h56 h95 hlw
    have hrw : ∀ row : List D, row ∈ dw.map encW → row.length = 1 ∧ row.all D.leaf = true := fun r h => encW_row h
    have hdw : List.take (k + dw.length) (List.take k (List.replicate k [D.int .u64 0]) ++ dw.map encW) = List.replicate k [D.int .u64 0] ++ dw.map encW := by rw [List.take_of_length_le (i := k) (by simp), List.take_of_length_le (by simp)]
    refine awp_seq ?_
    refine awp_block ?_
    refine awp_seq ?_
    refine awpF_region ?_; intro K hK; simp only [push_cast, seval, gy, encW, Int.toNat_natCast]; (try simp (disch := omega) only [wrapI]); (repeat ((with_reducible refine And.intro ?_ ?_); (focus (exact ob1)))); refine hK _ ?_; clear hK; clear K
    refine awpF_drawT (DT.op 1 (DT.op 3 (DT.op 4 (DT.or (DT.op 0 (DT.or (DT.op 2 (DT.op 5 (DT.op 6 (DT.op 7 (DT.op 8 (DT.op 9 DT.nil)))))) (DT.op 5 (DT.op 2 (DT.op 6 (DT.op 7 (DT.op 8 (DT.op 9 DT.nil)))))))) (DT.or (DT.op 2 (DT.or (DT.op 0 (DT.op 5 (DT.op 6 (DT.op 7 (DT.op 8 (DT.op 9 DT.nil)))))) (DT.op 5 (DT.or (DT.op 0 (DT.op 6 (DT.op 7 (DT.op 8 (DT.op 9 DT.nil))))) (DT.op 6 (DT.op 0 (DT.op 7 (DT.op 8 (DT.op 9 DT.nil))))))))) (DT.op 5 (DT.or (DT.op 0 (DT.op 2 (DT.op 6 (DT.op 7 (DT.op 8 (DT.op 9 DT.nil)))))) (DT.op 2 (DT.or (DT.op 0 (DT.op 6 (DT.op 7 (DT.op 8 (DT.op 9 DT.nil))))) (DT.op 6 (DT.op 0 (DT.op 7 (DT.op 8 (DT.op 9 DT.nil)))))))))))))) (by kernel_rfl) (by kernel_rfl) (by kernel_rfl) ?_; intro K hK; apply dt_close; (rotate_left; (intro fin; (focus (simp only [push_cast, seval, Int.toNat_natCast, hdw]; (try simp (disch := omega) only [wrapI]); (repeat' (first | exact fin | (with_reducible refine And.intro ?_ ?_) | (refine CallK.pd (h56) ?_; simp only [push_cast, seval, Int.toNat_natCast, hdw]; (try simp (disch := omega) only [wrapI])) | (refine CallK.pd (h95) ?_; simp only [push_cast, seval, Int.toNat_natCast, hdw]; (try simp (disch := omega) only [wrapI])) | (refine CallK.pd (h67) ?_; simp only [push_cast, seval, Int.toNat_natCast, hdw]; (try simp (disch := omega) only [wrapI])) | (refine CallK.pg (fun _ => h56) ?_; simp only [push_cast, seval, Int.toNat_natCast, hdw]; (try simp (disch := omega) only [wrapI])) | (refine CallK.pg (fun _ => h95) ?_; simp only [push_cast, seval, Int.toNat_natCast, hdw]; (try simp (disch := omega) only [wrapI])) | (refine CallK.pg (fun _ => h67) ?_; simp only [push_cast, seval, Int.toNat_natCast, hdw]; (try simp (disch := omega) only [wrapI])) | exact ob1)))))); refine hK _ ?_; clear hK; clear K
    refine inblock_norm ?_
    refine awpF_region ?_; intro K hK; simp only [push_cast, seval]; (try simp (disch := omega) only [wrapI]); (repeat ((with_reducible refine And.intro ?_ ?_); (focus (exact ob1)))); refine hK _ ?_; clear hK; clear K
    refine round_end (y := k + 1) (r := []) (by omega) (by omega) ?_
    exact ⟨by simp, by simp, by simp [push_cast, seval], by simp [push_cast, seval], by simp [push_cast, seval], by simp [push_cast, seval]⟩
  · intro h1; (try simp only [decide_eq_true_eq, decide_eq_false_iff_not, Bool.not_eq_true', Bool.not_eq_false', Bool.and_eq_true, Bool.or_eq_true, Bool.not_eq_true] at h1)
    refine awp_exit ?_; (repeat (first | refine then_exit ?_ | refine inblock_other (by decide) ?_)); refine inblock_same ?_
    refine awp_seq ?_
    refine awpF_region ?_; intro K hK; simp only [push_cast, seval]; (try simp (disch := omega) only [wrapI]); (repeat ((with_reducible refine And.intro ?_ ?_); (focus (exact ob1)))); refine hK _ ?_; clear hK; clear K
    refine awp_ret ?_; (repeat (first | refine then_ret ?_ | refine inblock_ret ?_)); refine fin_of (by simp only [push_cast, seval]; first | done | rfl) ob1 ?_
    rw [show k = dy.length by omega, List.take_length, hvy]

end Go.Aw

namespace Go.Aw
set_option linter.unusedSimpArgs false
set_option linter.unusedVariables false
open Go.RowKit Go.Proofs Go.Nt

theorem nw_pow {b n : Nat} (hb : b ≤ 1000) (hn : n ≤ 60) : nw (b ^ n) ≤ 10 := by
  unfold nw
  refine digs_len (by decide) _ _ ?_
  calc b ^ n ≤ 1000 ^ n := Nat.pow_le_pow_left hb n
    _ ≤ 1000 ^ 60 := Nat.pow_le_pow_right (by decide) hn
    _ < B64 ^ 10 := by decide

theorem p53 (b n : Nat) (hb : b ≤ 1000) (hn : n ≤ 60) : PD Tryz.prog 53 [.int .i64 b, .int .i64 n] (.d (Go.Aw.D.sl ((digs B64 (b ^ n)).map encW))) := by
  have h92 := p92 1 (by decide)
  refine pd_of (fn := Tryz.f53) [.tmp 4] (by kernel_rfl) rfl (by kernel_rfl) (Nat.le_of_ble_eq_true rfl) (by kernel_rfl) rfl rfl ?_
  refine awp_seq ?_
  refine awpF_region ?_; intro K hK; simp only [push_cast, seval]; (try simp (disch := omega) only [wrapI]); (repeat ((with_reducible refine And.intro ?_ ?_); (focus (exact ob1)))); refine hK _ ?_; clear hK; clear K
  refine awp_seq ?_
  refine awpF_region ?_; intro K hK; simp only [push_cast, seval]
  refine CallK.pd (h92) ?_; simp only [push_cast, seval]; (try simp (disch := omega) only [wrapI]); (repeat ((with_reducible refine And.intro ?_ ?_); (focus (exact ob1))))
  refine hK _ ?_; clear hK; clear K
  refine awp_seq ?_
  refine awp_seq ?_
  refine awpF_region ?_; intro K hK; simp only [push_cast, seval]; (try simp (disch := omega) only [wrapI]); (repeat ((with_reducible refine And.intro ?_ ?_); (focus (exact ob1)))); refine hK _ ?_; clear hK; clear K
  refine awp_block ?_
  refine awp_loopP (st := fun (k : Nat) => ⟨[(0, .d (.int .i64 b)), (5, .d (Go.Aw.D.sl ((digs B64 (b ^ k)).map encW))), (7, .d (.int .i64 n)), (8, .d (.int .i64 k))], []⟩) (inv := fun k => k ≤ n) (μ := fun k => n - k) (x0 := 0) (r0 := []) ?_ ?_ ?_
  · exact Nat.zero_le _
  · rw [Nat.pow_zero]; exact ⟨by simp, by simp, by simp [push_cast, seval], by simp [push_cast, seval], by simp [push_cast, seval], by simp [push_cast, seval]⟩
  intro k hk
  refine awp_seq ?_
  refine awpF_region ?_; intro K hK; simp only [push_cast, seval]; (try simp (disch := omega) only [wrapI]); (repeat ((with_reducible refine And.intro ?_ ?_); (focus (exact ob1)))); refine hK _ ?_; clear hK; clear K
  refine awp_seq ?_
  apply awp_cond; (focus (simp only [push_cast, seval]; rfl))
  · intro h1; (try simp only [decide_eq_true_eq, decide_eq_false_iff_not, Bool.not_eq_true', Bool.not_eq_false', Bool.and_eq_true, Bool.or_eq_true, Bool.not_eq_true] at h1)
    refine awp_skip ?_
    have h56 := p56 (b ^ k) b (Nat.le_trans (nw_pow hb (by omega)) (by decide)) (by omega)
    rw [← Nat.pow_succ] at h56
    have hwr : IntKind.u64.wrap (b : Int) = b := uwn b (by omega)
    refine awp_seq ?_
    refine awp_block ?_
    refine awpF_region ?_; intro K hK; simp only [push_cast, seval, hwr]
    (repeat ((with_reducible refine And.intro ?_ ?_); (focus (exact ob1))))
    refine CallK.pd (h56) ?_; simp only [push_cast, seval]; (try simp (disch := omega) only [wrapI]); (repeat ((with_reducible refine And.intro ?_ ?_); (focus (exact ob1))))
    refine hK _ ?_; clear hK; clear K
    refine inblock_norm ?_
    refine awpF_region ?_; intro K hK; simp only [push_cast, seval]; (try simp (disch := omega) only [wrapI]); (repeat ((with_reducible refine And.intro ?_ ?_); (focus (exact ob1)))); refine hK _ ?_; clear hK; clear K
    refine round_end (y := k + 1) (r := []) (by omega) (by omega) ?_
    exact ⟨by simp, by simp, by simp [push_cast, seval], by simp [push_cast, seval], by simp [push_cast, seval], by simp [push_cast, seval]⟩
  · intro h1; (try simp only [decide_eq_true_eq, decide_eq_false_iff_not, Bool.not_eq_true', Bool.not_eq_false', Bool.and_eq_true, Bool.or_eq_true, Bool.not_eq_true] at h1)
    refine awp_exit ?_; (repeat (first | refine then_exit ?_ | refine inblock_other (by decide) ?_)); refine inblock_same ?_
    refine awp_seq ?_
    refine awpF_region ?_; intro K hK; simp only [push_cast, seval]; (try simp (disch := omega) only [wrapI]); (repeat ((with_reducible refine And.intro ?_ ?_); (focus (exact ob1)))); refine hK _ ?_; clear hK; clear K
    refine awp_ret ?_; (repeat (first | refine then_ret ?_ | refine inblock_ret ?_)); refine fin_of (by simp only [push_cast, seval]; first | done | rfl) ob1 ?_
    rw [show k = n by omega]

end Go.Aw

namespace Go.Rl
set_option linter.unusedSimpArgs false
set_option linter.unusedVariables false

/-- Of (p + q)^n cases: those with k failures. -/
def cs (p q : Nat) : Nat → Nat → Nat
  | 0, 0 => 1
  | 0, _ + 1 => 0
  | n + 1, 0 => q * cs p q n 0
  | n + 1, k + 1 => q * cs p q n (k + 1) + p * cs p q n k

def sumF (f : Nat → Nat) : Nat → Nat
  | 0 => 0
  | n + 1 => sumF f n + f n
/-- From a on, so many. -/
def sumN (f : Nat → Nat) (a : Nat) : Nat → Nat
  | 0 => 0
  | m + 1 => sumN f a m + f (a + m)
/-- Fewer than k failures. -/
def lo (p q n k : Nat) : Nat := sumF (cs p q n) k

theorem sumN_zero (f : Nat → Nat) (m : Nat) : sumN f 0 m = sumF f m := by
  induction m with
  | zero => rfl
  | succ m ih => simp [sumN, sumF, ih]
theorem sumF_split (f : Nat → Nat) (a m : Nat) : sumF f (a + m) = sumF f a + sumN f a m := by
  induction m with
  | zero => rfl
  | succ m ih => rw [← Nat.add_assoc, sumF, ih, sumN]; omega
theorem sumF_mul (f : Nat → Nat) (c m : Nat) : sumF (fun i => c * f i) m = c * sumF f m := by
  induction m with
  | zero => rfl
  | succ m ih => simp only [sumF]; rw [ih, Nat.mul_add]
theorem sumF_le {f g : Nat → Nat} {m : Nat} (h : ∀ i, i < m → f i ≤ g i) : sumF f m ≤ sumF g m := by
  induction m with
  | zero => exact Nat.le_refl _
  | succ m ih => simp only [sumF]; have := ih fun i hi => h i (by omega); have := h m (by omega); omega
theorem sumF_mono (f : Nat → Nat) {a b : Nat} (h : a ≤ b) : sumF f a ≤ sumF f b := by
  obtain ⟨m, rfl⟩ := Nat.le.dest h
  rw [sumF_split]; omega

theorem cs_big (p q : Nat) : ∀ (n k : Nat), n < k → cs p q n k = 0
  | 0, k + 1, _ => rfl
  | n + 1, k + 1, h => by rw [cs, cs_big p q n (k + 1) (by omega), cs_big p q n k (by omega)]; simp

theorem lo_succ (p q n : Nat) : ∀ k, lo p q (n + 1) (k + 1) = q * lo p q n (k + 1) + p * lo p q n k
  | 0 => by simp [lo, sumF, cs]
  | k + 1 => by
    have ih := lo_succ p q n k
    unfold lo at ih ⊢
    rw [sumF, ih]
    conv => rhs; rw [sumF]
    rw [cs]
    conv => rhs; arg 2; rw [sumF]
    rw [Nat.mul_add, Nat.mul_add]
    omega
theorem lo_all (p q : Nat) : ∀ (n k : Nat), n < k → lo p q n k = (p + q) ^ n
  | 0, k + 1, _ => by
    have : lo p q 0 (k + 1) = lo p q 0 1 := by
      unfold lo
      rw [show k + 1 = 1 + k by omega, sumF_split]
      have : ∀ m, sumN (cs p q 0) 1 m = 0 := by
        intro m
        induction m with
        | zero => rfl
        | succ m ih => rw [sumN, ih, cs_big p q 0 _ (by omega)]
      rw [this]; rfl
    rw [this]; rfl
  | n + 1, k + 1, h => by
    rw [lo_succ, lo_all p q n (k + 1) (by omega), lo_all p q n k (by omega), Nat.pow_succ, Nat.mul_comm _ (p + q), Nat.add_mul]
    omega
theorem lo_le (p q n k : Nat) : lo p q n k ≤ (p + q) ^ n := by
  rw [← lo_all p q n (max k (n + 1)) (by omega)]
  exact sumF_mono _ (by omega)
theorem lo_mono (p q n : Nat) {a b : Nat} (h : a ≤ b) : lo p q n a ≤ lo p q n b := sumF_mono _ h

/-- A greater rate has no greater lower tail. -/
theorem lo_rate {p q p' q' : Nat} (h : p * (p' + q') ≤ p' * (p + q)) : ∀ (n k : Nat), lo p' q' n k * (p + q) ^ n ≤ lo p q n k * (p' + q') ^ n
  | 0, k => by
    cases k with
    | zero => simp [lo, sumF]
    | succ k => rw [lo_all _ _ 0 _ (by omega), lo_all _ _ 0 _ (by omega)]; simp
  | n + 1, 0 => by simp [lo, sumF]
  | n + 1, k + 1 => by
    have h1 := lo_rate h n (k + 1)
    have h2 := lo_rate h n k
    rw [lo_succ, lo_succ]
    have hm := lo_mono p q n (Nat.le_succ k)
    generalize lo p' q' n (k + 1) = A' at h1 ⊢
    generalize lo p' q' n k = B' at h2 ⊢
    generalize lo p q n (k + 1) = A at h1 hm ⊢
    generalize lo p q n k = B at h2 hm ⊢
    rw [Nat.pow_succ, Nat.pow_succ]
    generalize (p + q) ^ n = X at h1 h2 ⊢
    generalize (p' + q') ^ n = Y at h1 h2 ⊢
    have e1 : (q' * A' + p' * B') * X ≤ (q' * A + p' * B) * Y := by
      rw [Nat.add_mul, Nat.add_mul, Nat.mul_assoc, Nat.mul_assoc, Nat.mul_assoc, Nat.mul_assoc]
      exact Nat.add_le_add (Nat.mul_le_mul_left _ h1) (Nat.mul_le_mul_left _ h2)
    have e2 : (q' * A + p' * B) * (p + q) ≤ (q * A + p * B) * (p' + q') := by
      obtain ⟨C, rfl⟩ := Nat.le.dest hm
      have i1 : (q' * (B + C) + p' * B) * (p + q) = B * ((p + q) * (p' + q')) + C * (q' * (p + q)) := by
        simp only [Nat.mul_add, Nat.add_mul, Nat.mul_comm, Nat.mul_left_comm, Nat.mul_assoc]; omega
      have i2 : (q * (B + C) + p * B) * (p' + q') = B * ((p + q) * (p' + q')) + C * (q * (p' + q')) := by
        simp only [Nat.mul_add, Nat.add_mul, Nat.mul_comm, Nat.mul_left_comm, Nat.mul_assoc]; omega
      rw [i1, i2]
      apply Nat.add_le_add_left
      apply Nat.mul_le_mul_left
      have j1 : q' * (p + q) + p' * (p + q) = q * (p' + q') + p * (p' + q') := by
        simp only [Nat.mul_add, Nat.mul_comm]; omega
      omega
    calc (q' * A' + p' * B') * (X * (p + q)) = (q' * A' + p' * B') * X * (p + q) := (Nat.mul_assoc _ _ _).symm
      _ ≤ (q' * A + p' * B) * Y * (p + q) := Nat.mul_le_mul_right _ e1
      _ = (q' * A + p' * B) * (p + q) * Y := by rw [Nat.mul_assoc, Nat.mul_comm Y, ← Nat.mul_assoc]
      _ ≤ (q * A + p * B) * (p' + q') * Y := Nat.mul_le_mul_right _ e2
      _ = (q * A + p * B) * (Y * (p' + q')) := by rw [Nat.mul_assoc, Nat.mul_comm (p' + q')]

end Go.Rl

namespace Go.Rl
set_option linter.unusedSimpArgs false
set_option linter.unusedVariables false

/-- The product of choices at one sum: all, and from one place on. -/
def conv (f g : Nat → Nat) (s a m : Nat) : Nat := sumN (fun i => f i * g (s - i)) a m
end Go.Rl

namespace Go.Rl
set_option linter.unusedSimpArgs false
set_option linter.unusedVariables false

/-- The first digits of r / w: the whole number first. -/
def dig (w : Nat) : Nat → Nat → List Nat
  | 0, _ => []
  | m + 1, r => r / w :: dig w m (r % w * 10)
/-- The bytes of a text of digits: the first one, a point, the others. -/
def digB : List Nat → List Nat
  | [] => [46]
  | d :: l => (48 + d) :: 46 :: l.map fun x => 48 + x
end Go.Rl
