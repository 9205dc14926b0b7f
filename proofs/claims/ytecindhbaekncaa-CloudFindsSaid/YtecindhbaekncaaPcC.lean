/-
  Texts of the library, one behind the other. Over any program; no condition.
-/
import Derived.Test.YtecindhbaekncaaRows
import Derived.Test.YtecindhbaekncaaChecked
import Derived.ProofKit
import Derived.Carry
import Derived.Deep.Strs
import Derived.Test.YtecindhbaekncaaPcB
import Derived.Test.YtecindhbaekncaaPkC
import Derived.Test.YtecindhbaekncaaPcA
namespace Go.Aw
set_option linter.unusedSimpArgs false
set_option linter.unusedVariables false
open Go.RowKit Go.Proofs Go.Seg

theorem check_len {ps : List Pt} (h : check ps = 0) : ps.length ≤ 1000 := by
  simp [check] at h
  split at h <;> omega

def farV (x y : Int) : Bool := decide (x < -33554432 ∨ y < -33554432 ∨ x > 33554432 ∨ y > 33554432)
def sh (x y : Int) (p : Pt) : Pt := (p.1 + x, p.2.1 + y, p.2.2)
end Go.Aw

namespace Go.Aw
set_option linter.unusedSimpArgs false
set_option linter.unusedVariables false
open Go.RowKit Go.Proofs Go.Seg

theorem p105 (x : Int) : PD Try.prog 105 [.int .i64 x] (.d (.bool false)) := by
  refine pd_of (fn := Try.f105) [.tmp 2] (by kernel_rfl) rfl (by kernel_rfl) (Nat.le_of_ble_eq_true rfl) (by kernel_rfl) rfl rfl ?_
  refine awp_seq ?_
  refine awpF_region ?_; intro K hK; simp only [push_cast, seval]; (try simp (disch := omega) only [wrapI]); (repeat ((with_reducible refine And.intro ?_ ?_); (focus (exact ob1)))); refine hK _ ?_; clear hK; clear K
  refine awp_seq ?_
  refine awpF_region ?_; intro K hK; simp only [push_cast, seval]; (try simp (disch := omega) only [wrapI]); (repeat ((with_reducible refine And.intro ?_ ?_); (focus (exact ob1)))); refine hK _ ?_; clear hK; clear K
  refine awp_ret ?_; (repeat (first | refine then_ret ?_ | refine inblock_ret ?_)); refine fin_of (by simp only [push_cast, seval]; first | done | rfl) ob1 ?_
  simp

def cmp3 (a b : Int) : Int := if a < b then -1 else if a > b then 1 else 0

theorem p69 (a b : Int) : PD Try.prog 69 [.int .i64 a, .int .i64 b] (.d (.int .i64 (cmp3 a b))) := by
  refine pd_of (fn := Try.f69) [.tmp 4] (by kernel_rfl) rfl (by kernel_rfl) (Nat.le_of_ble_eq_true rfl) (by kernel_rfl) rfl rfl ?_
  refine awp_seq ?_
  refine awpF_region ?_; intro K hK; simp only [push_cast, seval]; (try simp (disch := omega) only [wrapI]); (repeat ((with_reducible refine And.intro ?_ ?_); (focus (exact ob1)))); refine hK _ ?_; clear hK; clear K
  refine awp_seq ?_
  refine awpF_region ?_; intro K hK; simp only [push_cast, seval]
  (repeat ((with_reducible refine And.intro ?_ ?_); (focus (exact ob1))))
  refine CallK.pd (p105 _) ?_; simp only [push_cast, seval]; (try simp (disch := omega) only [wrapI]); (repeat ((with_reducible refine And.intro ?_ ?_); (focus (exact ob1))))
  refine hK _ ?_; clear hK; clear K
  refine awp_seq ?_
  refine awpF_region ?_; intro K hK; simp only [push_cast, seval]
  (repeat ((with_reducible refine And.intro ?_ ?_); (focus (exact ob1))))
  refine CallK.pd (p105 _) ?_; simp only [push_cast, seval]; (try simp (disch := omega) only [wrapI]); (repeat ((with_reducible refine And.intro ?_ ?_); (focus (exact ob1))))
  refine hK _ ?_; clear hK; clear K
  refine awp_seq ?_
  refine awp_seq ?_
  refine awpF_region ?_; intro K hK; simp only [push_cast, seval]; (try simp (disch := omega) only [wrapI]); (repeat ((with_reducible refine And.intro ?_ ?_); (focus (exact ob1)))); refine hK _ ?_; clear hK; clear K
  apply awp_cond; (focus (simp only [push_cast, seval]; rfl))
  · intro h1; (try simp only [decide_eq_true_eq, decide_eq_false_iff_not, Bool.not_eq_true', Bool.not_eq_false', Bool.and_eq_true, Bool.or_eq_true, Bool.not_eq_true] at h1)
    cases h1
  intro h1; (try simp only [decide_eq_true_eq, decide_eq_false_iff_not, Bool.not_eq_true', Bool.not_eq_false', Bool.and_eq_true, Bool.or_eq_true, Bool.not_eq_true] at h1)
  refine awp_skip ?_
  refine awp_seq ?_
  refine awp_seq ?_
  refine awpF_region ?_; intro K hK; simp only [push_cast, seval]; (try simp (disch := omega) only [wrapI]); (repeat ((with_reducible refine And.intro ?_ ?_); (focus (exact ob1)))); refine hK _ ?_; clear hK; clear K
  apply awp_cond; (focus (simp only [push_cast, seval]; rfl))
  · intro h2; (try simp only [decide_eq_true_eq, decide_eq_false_iff_not, Bool.not_eq_true', Bool.not_eq_false', Bool.and_eq_true, Bool.or_eq_true, Bool.not_eq_true] at h2)
    cases h2
  intro h2; (try simp only [decide_eq_true_eq, decide_eq_false_iff_not, Bool.not_eq_true', Bool.not_eq_false', Bool.and_eq_true, Bool.or_eq_true, Bool.not_eq_true] at h2)
  refine awp_skip ?_
  refine awp_seq ?_
  refine awp_seq ?_
  refine awpF_region ?_; intro K hK; simp only [push_cast, seval]; (try simp (disch := omega) only [wrapI]); (repeat ((with_reducible refine And.intro ?_ ?_); (focus (exact ob1)))); refine hK _ ?_; clear hK; clear K
  apply awp_cond; (focus (simp only [push_cast, seval]; rfl))
  · intro h3; (try simp only [decide_eq_true_eq, decide_eq_false_iff_not, Bool.not_eq_true', Bool.not_eq_false', Bool.and_eq_true, Bool.or_eq_true, Bool.not_eq_true] at h3)
    refine awp_seq ?_
    refine awpF_region ?_; intro K hK; simp only [push_cast, seval]; (try simp (disch := omega) only [wrapI]); (repeat ((with_reducible refine And.intro ?_ ?_); (focus (exact ob1)))); refine hK _ ?_; clear hK; clear K
    refine awp_ret ?_; (repeat (first | refine then_ret ?_ | refine inblock_ret ?_)); refine fin_of (by simp only [push_cast, seval]; first | done | rfl) ob1 ?_
    simp [cmp3, h3]
  intro h3; (try simp only [decide_eq_true_eq, decide_eq_false_iff_not, Bool.not_eq_true', Bool.not_eq_false', Bool.and_eq_true, Bool.or_eq_true, Bool.not_eq_true] at h3)
  refine awp_skip ?_
  refine awp_seq ?_
  refine awp_seq ?_
  refine awpF_region ?_; intro K hK; simp only [push_cast, seval]; (try simp (disch := omega) only [wrapI]); (repeat ((with_reducible refine And.intro ?_ ?_); (focus (exact ob1)))); refine hK _ ?_; clear hK; clear K
  apply awp_cond; (focus (simp only [push_cast, seval]; rfl))
  · intro h4; (try simp only [decide_eq_true_eq, decide_eq_false_iff_not, Bool.not_eq_true', Bool.not_eq_false', Bool.and_eq_true, Bool.or_eq_true, Bool.not_eq_true] at h4)
    refine awp_seq ?_
    refine awpF_region ?_; intro K hK; simp only [push_cast, seval]; (try simp (disch := omega) only [wrapI]); (repeat ((with_reducible refine And.intro ?_ ?_); (focus (exact ob1)))); refine hK _ ?_; clear hK; clear K
    refine awp_ret ?_; (repeat (first | refine then_ret ?_ | refine inblock_ret ?_)); refine fin_of (by simp only [push_cast, seval]; first | done | rfl) ob1 ?_
    simp [cmp3, h3]
    omega
  intro h4; (try simp only [decide_eq_true_eq, decide_eq_false_iff_not, Bool.not_eq_true', Bool.not_eq_false', Bool.and_eq_true, Bool.or_eq_true, Bool.not_eq_true] at h4)
  refine awp_skip ?_
  refine awp_seq ?_
  refine awpF_region ?_; intro K hK; simp only [push_cast, seval]; (try simp (disch := omega) only [wrapI]); (repeat ((with_reducible refine And.intro ?_ ?_); (focus (exact ob1)))); refine hK _ ?_; clear hK; clear K
  refine awp_ret ?_; (repeat (first | refine then_ret ?_ | refine inblock_ret ?_)); refine fin_of (by simp only [push_cast, seval]; first | done | rfl) ob1 ?_
  simp [cmp3, h3]
  omega

/-- The first that is not 0. -/
def cor (l : List Int) : Int := match l with
  | [] => 0
  | x :: r => if x ≠ 0 then x else cor r

theorem cor_all {l : List Int} (h : ∀ x, x ∈ l → x = 0) : cor l = 0 := by
  induction l with
  | nil => rfl
  | cons x r ih => simp [cor, h x (by simp), ih fun y hy => h y (by simp [hy])]
theorem cor_at : ∀ {l : List Int} {i : Nat} {x : Int}, l[i]? = some x → x ≠ 0 → (∀ j y, j < i → l[j]? = some y → y = 0) → cor l = x
  | [], i, x, h, _, _ => by simp at h
  | y :: l, 0, x, h, hx, _ => by simp at h; subst h; simp [cor, hx]
  | y :: l, i + 1, x, h, hx, hz => by
    have h0 := hz 0 y (by omega) rfl
    simp only [cor, h0, ne_eq, not_true, if_false]
    exact cor_at (i := i) (by simpa using h) hx fun j z hj hz' => hz (j + 1) z (by omega) (by simpa using hz')

theorem p68 (l : List Int) (hn : l.length ≤ 1000000) : PD Try.prog 68 [.sl (l.map encI)] (.d (.int .i64 (cor l))) := by
  refine pd_of (fn := Try.f68) [.tmp 2] (by kernel_rfl) rfl (by kernel_rfl) (Nat.le_of_ble_eq_true rfl) (by kernel_rfl) rfl rfl ?_
  refine awp_seq ?_
  refine awpF_region ?_; intro K hK; simp only [push_cast, seval]; (try simp (disch := omega) only [wrapI]); (repeat ((with_reducible refine And.intro ?_ ?_); (focus (exact ob1)))); refine hK _ ?_; clear hK; clear K
  refine awp_seq ?_
  refine awpF_region ?_; intro K hK; simp only [push_cast, seval]; (try simp (disch := omega) only [wrapI]); (repeat ((with_reducible refine And.intro ?_ ?_); (focus (exact ob1)))); refine hK _ ?_; clear hK; clear K
  refine awp_seq ?_
  refine awp_seq ?_
  refine awpF_region ?_; intro K hK; simp only [push_cast, seval]; (try simp (disch := omega) only [wrapI]); (repeat ((with_reducible refine And.intro ?_ ?_); (focus (exact ob1)))); refine hK _ ?_; clear hK; clear K
  refine awp_block ?_
  refine awp_loopP (st := fun (x : Nat) => ⟨[(3, .d (.int .i64 0)), (6, .d (.sl (l.map encI))), (7, .d (.int .i64 l.length)), (8, .d (.int .i64 x))], []⟩)
    (inv := fun x => x ≤ l.length ∧ ∀ j y, j < x → l[j]? = some y → y = 0) (μ := fun x => l.length - x) (x0 := 0) (r0 := []) ?_ ?_ ?_
  · exact ⟨Nat.zero_le _, fun j p h => by omega⟩
  · exact ⟨by simp, by simp, by simp [push_cast, seval], by simp [push_cast, seval], by simp [push_cast, seval], by simp [push_cast, seval]⟩
  rintro i ⟨hi, hno⟩
  refine awp_seq ?_
  refine awpF_region ?_; intro K hK; simp only [push_cast, seval]; (try simp (disch := omega) only [wrapI]); (repeat ((with_reducible refine And.intro ?_ ?_); (focus (exact ob1)))); refine hK _ ?_; clear hK; clear K
  refine awp_seq ?_
  apply awp_cond; (focus (simp only [push_cast, seval]; rfl))
  · intro h1; (try simp only [decide_eq_true_eq, decide_eq_false_iff_not, Bool.not_eq_true', Bool.not_eq_false', Bool.and_eq_true, Bool.or_eq_true, Bool.not_eq_true] at h1)
    have hlt : i < l.length := by omega
    obtain ⟨x, hx⟩ : ∃ x, l[i]? = some x := ⟨_, List.getElem?_eq_getElem hlt⟩
    refine awp_skip ?_
    refine awp_seq ?_
    refine awp_block ?_
    refine awp_seq ?_
    refine awpF_region ?_; intro K hK; simp only [push_cast, seval, hx, encI]; (try simp (disch := omega) only [wrapI]); (repeat ((with_reducible refine And.intro ?_ ?_); (focus (exact ob1)))); refine hK _ ?_; clear hK; clear K
    refine awp_seq ?_
    refine awpF_region ?_; intro K hK; simp only [push_cast, seval]; (try simp (disch := omega) only [wrapI]); (repeat ((with_reducible refine And.intro ?_ ?_); (focus (exact ob1)))); refine hK _ ?_; clear hK; clear K
    apply awp_cond; (focus (simp only [push_cast, seval]; rfl))
    · intro h2; (try simp only [decide_eq_true_eq, decide_eq_false_iff_not, Bool.not_eq_true', Bool.not_eq_false', Bool.and_eq_true, Bool.or_eq_true, Bool.not_eq_true] at h2)
      refine awp_seq ?_
      refine awpF_region ?_; intro K hK; simp only [push_cast, seval]; (try simp (disch := omega) only [wrapI]); (repeat ((with_reducible refine And.intro ?_ ?_); (focus (exact ob1)))); refine hK _ ?_; clear hK; clear K
      refine awp_ret ?_; (repeat (first | refine then_ret ?_ | refine inblock_ret ?_)); refine fin_of (by simp only [push_cast, seval]; first | done | rfl) ob1 ?_
      rw [cor_at hx (by simpa using h2) hno]
    · intro h2; (try simp only [decide_eq_true_eq, decide_eq_false_iff_not, Bool.not_eq_true', Bool.not_eq_false', Bool.and_eq_true, Bool.or_eq_true, Bool.not_eq_true] at h2)
      refine awp_skip ?_
      refine awpF_region ?_; intro K hK; simp only [push_cast, seval]; (try simp (disch := omega) only [wrapI]); (repeat ((with_reducible refine And.intro ?_ ?_); (focus (exact ob1)))); refine hK _ ?_; clear hK; clear K
      refine round_endG (i + 1) [] ⟨?_, ⟨hlt, fun j y hj hy => ?_⟩, ?_⟩
      · omega
      · rcases Nat.lt_or_ge j i with h | h
        · exact hno j y h hy
        · have : j = i := by omega
          subst this
          rw [hx] at hy
          cases hy
          simpa using h2
      · exact ⟨by simp, by simp, by simp [push_cast, seval], by simp [push_cast, seval], by simp [push_cast, seval], by simp [push_cast, seval]⟩
  · intro h1; (try simp only [decide_eq_true_eq, decide_eq_false_iff_not, Bool.not_eq_true', Bool.not_eq_false', Bool.and_eq_true, Bool.or_eq_true, Bool.not_eq_true] at h1)
    have hie : i = l.length := by omega
    subst hie
    refine awp_exit ?_; (repeat (first | refine then_exit ?_ | refine inblock_other (by decide) ?_)); refine inblock_same ?_
    refine awp_seq ?_
    refine awpF_region ?_; intro K hK; simp only [push_cast, seval]; (try simp (disch := omega) only [wrapI]); (repeat ((with_reducible refine And.intro ?_ ?_); (focus (exact ob1)))); refine hK _ ?_; clear hK; clear K
    refine awp_ret ?_; (repeat (first | refine then_ret ?_ | refine inblock_ret ?_)); refine fin_of (by simp only [push_cast, seval]; first | done | rfl) ob1 ?_
    rw [cor_all fun x hx => by
      obtain ⟨j, hj, rfl⟩ := List.getElem_of_mem hx
      exact hno j _ hj (List.getElem?_eq_getElem hj)]

def far0 (x y : Int) : Int := max x (-x) + max y (-y)

end Go.Aw

namespace Go.Rg
set_option linter.unusedSimpArgs false
set_option linter.unusedVariables false
open Go.Aw

abbrev Sp := Int × Int

/-- n matches at d are better than m matches at e. -/
def better (n : Int) (d : Sp) (m : Int) (e : Sp) : Prop := n > m ∨ n = m ∧ (far0 d.1 d.2 < far0 e.1 e.2 ∨ far0 d.1 d.2 = far0 e.1 e.2 ∧ (d.1 < e.1 ∨ d.1 = e.1 ∧ d.2 < e.2))

instance (n : Int) (d : Sp) (m : Int) (e : Sp) : Decidable (better n d m e) := by unfold better; infer_instance

theorem better_irrefl (n : Int) (d : Sp) : ¬ better n d n d := by unfold better; omega
theorem better_total {n m : Int} {d e : Sp} (h1 : ¬ better n d m e) (h2 : ¬ better m e n d) : n = m ∧ d = e := by
  unfold better at *
  have h3 : d.1 = e.1 := by omega
  have h4 : d.2 = e.2 := by omega
  exact ⟨by omega, Prod.ext h3 h4⟩

def Best (c : Sp → Int) (l : List Sp) (d : Sp) : Prop := d ∈ l ∧ ∀ e, e ∈ l → ¬ better (c e) e (c d) d

theorem Best.unique {c : Sp → Int} {l l' : List Sp} {d e : Sp} (h1 : Best c l d) (h2 : Best c l' e) (h : ∀ x, x ∈ l ↔ x ∈ l') : d = e :=
  (better_total (h2.2 d ((h d).1 h1.1)) (h1.2 e ((h e).2 h2.1))).2
theorem Best.one (c : Sp → Int) (d : Sp) : Best c [d] d := ⟨by simp, fun e he => by simp at he; subst he; exact better_irrefl _ _⟩
theorem Best.same {c : Sp → Int} {l l' : List Sp} {d : Sp} (h1 : Best c l d) (h : ∀ x, x ∈ l' ↔ x ∈ l) : Best c l' d := ⟨(h d).2 h1.1, fun e he => h1.2 e ((h e).1 he)⟩
/-- In the window. -/
def inW (w : Int) (d : Sp) : Prop := -w ≤ d.1 ∧ d.1 ≤ w ∧ -w ≤ d.2 ∧ d.2 ≤ w
instance (w : Int) (d : Sp) : Decidable (inW w d) := by unfold inW; infer_instance
def diff (p q : Pt) : Sp := (p.1 - q.1, p.2.1 - q.2.1)
/-- The candidates, as far as the loops have come. -/
def row (w : Int) (p : Pt) (b : List Pt) : List Sp := (b.map (diff p)).filter fun d => decide (inW w d)
end Go.Rg

namespace Go.Aw
set_option linter.unusedSimpArgs false
set_option linter.unusedVariables false
open Go.RowKit Go.Proofs Go.Seg

def hit (x y slack : Int) (p q : Pt) : Bool := decide (p.1 + x - q.1 ≤ slack ∧ -slack ≤ p.1 + x - q.1 ∧ p.2.1 + y - q.2.1 ≤ slack ∧ -slack ≤ p.2.1 + y - q.2.1)

def cnt (a b : List Pt) (x y slack : Int) : Nat := (yes b (fun p => a.any (hit x y slack p)) b.length).length

def matchOk (a b : List Pt) (x y slack : Int) : Bool := decide (check a = 0) && decide (check b = 0) && decide (0 ≤ slack) && decide (slack ≤ 2000) && !farV x y
def matchV (a b : List Pt) (x y slack : Int) : Nat := if matchOk a b x y slack then cnt a b x y slack else 0

end Go.Aw

namespace Go.Aw
set_option linter.unusedSimpArgs false
set_option linter.unusedVariables false
open Go.RowKit Go.Proofs Go.Seg

end Go.Aw

namespace Go.Aw
set_option linter.unusedSimpArgs false
set_option linter.unusedVariables false
open Go.RowKit Go.Proofs Go.Rg

def cN (a b : List Pt) (s : Int) (d : Sp) : Int := (cnt a b d.1 d.2 s : Nat)
structure RegOk (a b : List Pt) (w s : Int) : Prop where
  ha : check a = 0
  hb : check b = 0
  la : a.length ≤ 60
  lb : b.length ≤ 60
  w0 : 0 ≤ w
  w1 : w ≤ 2000
  s0 : 0 ≤ s
  s1 : s ≤ 2000

theorem RegOk.far {a b : List Pt} {w s : Int} (h : RegOk a b w s) {d : Sp} (hd : inW w d) : farV d.1 d.2 = false := by
  have := h.w1
  simp only [inW] at hd
  simp [farV]
  omega
theorem RegOk.match {a b : List Pt} {w s : Int} (h : RegOk a b w s) {d : Sp} (hd : inW w d) : (matchV a b d.1 d.2 s : Int) = cN a b s d := by
  have : matchOk a b d.1 d.2 s = true := by simp [matchOk, h.ha, h.hb, h.s0, h.s1, h.far hd]
  simp [matchV, this, cN]

end Go.Aw

namespace Go.Aw
set_option linter.unusedSimpArgs false
set_option linter.unusedVariables false
open Go.ChangeShapes Go.WideShapes Go.RowKit Go.Proofs

end Go.Aw

namespace Go.Aw
set_option linter.unusedSimpArgs false
set_option linter.unusedVariables false
open Go.ChangeShapes Go.WideShapes Go.RowKit Go.Proofs

end Go.Aw
