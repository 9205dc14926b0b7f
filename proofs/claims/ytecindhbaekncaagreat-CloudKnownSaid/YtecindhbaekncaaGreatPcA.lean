/-
  Texts of the library, one behind the other. Over any program; no condition.
-/
import Derived.Test.YtecindhbaekncaaGreatPkY
import Derived.Test.YtecindhbaekncaaGreatPkD
import Derived.Test.YtecindhbaekncaaGreatPkT
import Derived.Test.YtecindhbaekncaaGreatPkA
namespace Go.Aw
set_option linter.unusedSimpArgs false
set_option linter.unusedVariables false
open Go.RowKit Go.Proofs

theorem p59 (x y z : Int) : PD Tryz.prog 26 [.agg [.int .i64 x, .int .i64 y, .int .i64 z]] (.agg [.d (.int .i64 x), .d (.int .i64 y)]) := by
  refine pd_of (fn := Tryz.f26) [.cell 2 33] (by kernel_rfl) rfl (by kernel_rfl) (Nat.le_of_ble_eq_true rfl) (by kernel_rfl) rfl rfl ?_
  refine awp_seq ?_
  refine awpF_region ?_; intro K hK; simp only [push_cast, seval]; (try simp (disch := omega) only [wrapI]); (repeat ((with_reducible refine And.intro ?_ ?_); (focus (exact ob1)))); refine hK _ ?_; clear hK; clear K
  refine awp_seq ?_
  refine awpF_region ?_; intro K hK; simp only [push_cast, seval]; (try simp (disch := omega) only [wrapI]); (repeat ((with_reducible refine And.intro ?_ ?_); (focus (exact ob1)))); refine hK _ ?_; clear hK; clear K
  refine awp_ret ?_; (repeat (first | refine then_ret ?_ | refine inblock_ret ?_)); refine fin_of (by simp only [push_cast, seval]; first | done | rfl) ob1 ?_
  rfl

def fair (x y : Int) : Bool := decide (-16777216 ≤ x ∧ x ≤ 16777216 ∧ -16777216 ≤ y ∧ y ≤ 16777216)
theorem p63 (x y : Int) : PD Tryz.prog 25 [.agg [.int .i64 x, .int .i64 y]] (.d (.bool (fair x y))) := by
  refine pd_of (fn := Tryz.f25) [.tmp 2] (by kernel_rfl) rfl (by kernel_rfl) (Nat.le_of_ble_eq_true rfl) (by kernel_rfl) rfl rfl ?_
  refine awp_seq ?_
  refine awpF_region ?_; intro K hK; simp only [push_cast, seval]; (try simp (disch := omega) only [wrapI]); (repeat ((with_reducible refine And.intro ?_ ?_); (focus (exact ob1)))); refine hK _ ?_; clear hK; clear K
  refine awp_seq ?_
  refine awpF_region ?_; intro K hK; simp only [push_cast, seval]; (try simp (disch := omega) only [wrapI]); (repeat ((with_reducible refine And.intro ?_ ?_); (focus (exact ob1)))); refine hK _ ?_; clear hK; clear K
  refine awp_ret ?_; (repeat (first | refine then_ret ?_ | refine inblock_ret ?_)); refine fin_of (by simp only [push_cast, seval]; first | done | rfl) ob1 ?_
  congr 2
  unfold fair
  rw [Bool.eq_iff_iff]
  simp
  omega

abbrev Pt := Int × Int × Int
def encP (p : Pt) : List D := [.int .i64 p.1, .int .i64 p.2.1, .int .i64 p.2.2]
def okP (p : Pt) : Bool := fair p.1 p.2.1 && decide (-4000 ≤ p.2.2 ∧ p.2.2 ≤ 4000)
def check (ps : List Pt) : Int := if 1000 < ps.length then 8 else if ps.all okP then 0 else 2

theorem p25 (ps : List Pt) : PD Tryz.prog 6 [.sl (ps.map encP)] (.d (.int .i64 (check ps))) := by
  refine pd_of (fn := Tryz.f6) [.tmp 2] (by kernel_rfl) rfl (by kernel_rfl) (Nat.le_of_ble_eq_true rfl) (by kernel_rfl) rfl rfl ?_
  refine awp_seq ?_
  refine awpF_region ?_; intro K hK; simp only [push_cast, seval]; (try simp (disch := omega) only [wrapI]); (repeat ((with_reducible refine And.intro ?_ ?_); (focus (exact ob1)))); refine hK _ ?_; clear hK; clear K
  refine awp_seq ?_
  refine awp_seq ?_
  refine awpF_region ?_; intro K hK; simp only [push_cast, seval]; (try simp (disch := omega) only [wrapI]); (repeat ((with_reducible refine And.intro ?_ ?_); (focus (exact ob1)))); refine hK _ ?_; clear hK; clear K
  apply awp_cond; (focus (simp only [push_cast, seval]; rfl))
  · intro hb; (try simp only [decide_eq_true_eq, decide_eq_false_iff_not, Bool.not_eq_true', Bool.not_eq_false', Bool.and_eq_true, Bool.or_eq_true, Bool.not_eq_true] at hb)
    refine awp_seq ?_
    refine awpF_region ?_; intro K hK; simp only [push_cast, seval]; (try simp (disch := omega) only [wrapI]); (repeat ((with_reducible refine And.intro ?_ ?_); (focus (exact ob1)))); refine hK _ ?_; clear hK; clear K
    refine awp_ret ?_; (repeat (first | refine then_ret ?_ | refine inblock_ret ?_)); refine fin_of (by simp only [push_cast, seval]; first | done | rfl) ob1 ?_
    simp [check]
    omega
  intro hb; (try simp only [decide_eq_true_eq, decide_eq_false_iff_not, Bool.not_eq_true', Bool.not_eq_false', Bool.and_eq_true, Bool.or_eq_true, Bool.not_eq_true] at hb)
  refine awp_skip ?_
  refine awp_seq ?_
  refine awp_seq ?_
  refine awpF_region ?_; intro K hK; simp only [push_cast, seval]; (try simp (disch := omega) only [wrapI]); (repeat ((with_reducible refine And.intro ?_ ?_); (focus (exact ob1)))); refine hK _ ?_; clear hK; clear K
  refine awp_block ?_
  refine awp_loopP (st := fun x : Nat => ⟨[(8, .d (.sl (ps.map encP))), (9, .d (.int .i64 ps.length)), (10, .d (.int .i64 x))], []⟩) (inv := fun x => x ≤ ps.length ∧ ∀ i p, i < x → ps[i]? = some p → okP p = true) (μ := fun x => ps.length - x) (x0 := 0) (r0 := []) ?_ ?_ ?_
  · simp
  · exact ⟨by simp, by simp, by simp [push_cast, seval], by simp [push_cast, seval], by simp [push_cast, seval], by simp [push_cast, seval]⟩
  rintro x ⟨hx1, hx2⟩
  refine awp_seq ?_
  refine awpF_region ?_; intro K hK; simp only [push_cast, seval]; (try simp (disch := omega) only [wrapI]); (repeat ((with_reducible refine And.intro ?_ ?_); (focus (exact ob1)))); refine hK _ ?_; clear hK; clear K
  refine awp_seq ?_
  apply awp_cond; (focus (simp only [push_cast, seval]; rfl))
  · intro hb; (try simp only [decide_eq_true_eq, decide_eq_false_iff_not, Bool.not_eq_true', Bool.not_eq_false', Bool.and_eq_true, Bool.or_eq_true, Bool.not_eq_true] at hb)
    have hlt : x < ps.length := by omega
    obtain ⟨p, hp⟩ : ∃ p, ps[x]? = some p := ⟨_, List.getElem?_eq_getElem hlt⟩
    refine awp_skip ?_
    refine awp_seq ?_
    refine awp_block ?_
    refine awp_seq ?_
    refine awpF_region ?_; intro K hK; simp only [push_cast, seval, hp, encP]; (try simp (disch := omega) only [wrapI]); (repeat ((with_reducible refine And.intro ?_ ?_); (focus (exact ob1)))); refine hK _ ?_; clear hK; clear K
    refine awp_seq ?_
    refine awpF_region ?_; intro K hK; simp only [push_cast, seval]
    (repeat ((with_reducible refine And.intro ?_ ?_); (focus (exact ob1))))
    refine CallK.pd (p59 _ _ _) ?_; simp only [push_cast, seval]; (try simp (disch := omega) only [wrapI]); (repeat ((with_reducible refine And.intro ?_ ?_); (focus (exact ob1))))
    refine CallK.pd (p63 _ _) ?_; simp only [push_cast, seval]; (try simp (disch := omega) only [wrapI]); (repeat ((with_reducible refine And.intro ?_ ?_); (focus (exact ob1))))
    refine hK _ ?_; clear hK; clear K
    apply awp_cond; (focus (simp only [push_cast, seval]; rfl))
    · intro hb; (try simp only [decide_eq_true_eq, decide_eq_false_iff_not, Bool.not_eq_true', Bool.not_eq_false', Bool.and_eq_true, Bool.or_eq_true, Bool.not_eq_true] at hb)
      refine awp_seq ?_
      refine awpF_region ?_; intro K hK; simp only [push_cast, seval]; (try simp (disch := omega) only [wrapI]); (repeat ((with_reducible refine And.intro ?_ ?_); (focus (exact ob1)))); refine hK _ ?_; clear hK; clear K
      refine awp_ret ?_; (repeat (first | refine then_ret ?_ | refine inblock_ret ?_)); refine fin_of (by simp only [push_cast, seval]; first | done | rfl) ob1 ?_
      have : ¬ ps.all okP = true := fun h => by
        have := List.all_eq_true.1 h p (List.mem_of_getElem? hp)
        simp [okP] at this hb
        simp [this] at hb
        omega
      simp [check, this]
      omega
    · intro hc; (try simp only [decide_eq_true_eq, decide_eq_false_iff_not, Bool.not_eq_true', Bool.not_eq_false', Bool.and_eq_true, Bool.or_eq_true, Bool.not_eq_true] at hc)
      refine awp_skip ?_
      refine awpF_region ?_; intro K hK; simp only [push_cast, seval]; (try simp (disch := omega) only [wrapI]); (repeat ((with_reducible refine And.intro ?_ ?_); (focus (exact ob1)))); refine hK _ ?_; clear hK; clear K
      refine round_end (y := x + 1) (r := []) (by omega) ⟨hlt, fun i q hi hq => ?_⟩ ?_
      · rcases Nat.lt_or_ge i x with h | h
        · exact hx2 i q h hq
        · have : i = x := by omega
          subst this
          rw [hp] at hq
          cases hq
          revert hc
          simp only [okP]
          cases fair p.1 p.2.1 <;> simp <;> omega
      · exact ⟨by simp, by simp, by simp [push_cast, seval], by simp [push_cast, seval], by simp [push_cast, seval], by simp [push_cast, seval]⟩
  · intro hb; (try simp only [decide_eq_true_eq, decide_eq_false_iff_not, Bool.not_eq_true', Bool.not_eq_false', Bool.and_eq_true, Bool.or_eq_true, Bool.not_eq_true] at hb)
    refine awp_exit ?_; (repeat (first | refine then_exit ?_ | refine inblock_other (by decide) ?_)); refine inblock_same ?_
    refine awp_seq ?_
    refine awpF_region ?_; intro K hK; simp only [push_cast, seval]; (try simp (disch := omega) only [wrapI]); (repeat ((with_reducible refine And.intro ?_ ?_); (focus (exact ob1)))); refine hK _ ?_; clear hK; clear K
    refine awp_ret ?_; (repeat (first | refine then_ret ?_ | refine inblock_ret ?_)); refine fin_of (by simp only [push_cast, seval]; first | done | rfl) ob1 ?_
    have : ps.all okP = true := List.all_eq_true.2 fun p hp => by
      obtain ⟨i, hi, rfl⟩ := List.getElem_of_mem hp
      exact hx2 i _ (by omega) (List.getElem?_eq_getElem hi)
    simp [check, this]
    omega
end Go.Aw

namespace Go.Aw
set_option linter.unusedSimpArgs false
set_option linter.unusedVariables false
open Go.RowKit Go.Proofs

theorem p100 (a b c d : Int) : PD Tryz.prog 57 [.agg [.int .i64 a, .int .i64 b], .agg [.int .i64 c, .int .i64 d]] (.agg [.d (.int .i64 (IntKind.i64.wrap (c - a))), .d (.int .i64 (IntKind.i64.wrap (d - b)))]) := by
  refine pd_of (fn := Tryz.f57) [.cell 4 105] (by kernel_rfl) rfl (by kernel_rfl) (Nat.le_of_ble_eq_true rfl) (by kernel_rfl) rfl rfl ?_
  refine awp_seq ?_
  refine awpF_region ?_; intro K hK; simp only [push_cast, seval]; (try simp (disch := omega) only [wrapI]); (repeat ((with_reducible refine And.intro ?_ ?_); (focus (exact ob1)))); refine hK _ ?_; clear hK; clear K
  refine awp_seq ?_
  refine awpF_region ?_; intro K hK; simp only [push_cast, seval]; (try simp (disch := omega) only [wrapI]); (repeat ((with_reducible refine And.intro ?_ ?_); (focus (exact ob1)))); refine hK _ ?_; clear hK; clear K
  refine awp_ret ?_; (repeat (first | refine then_ret ?_ | refine inblock_ret ?_)); refine fin_of (by simp only [push_cast, seval]; first | done | rfl) ob1 ?_
  rfl
theorem p101 (a b c d : Int) : PD Tryz.prog 58 [.agg [.int .i64 a, .int .i64 b], .agg [.int .i64 c, .int .i64 d]] (.d (.int .i64 (IntKind.i64.wrap (IntKind.i64.wrap (a * c) + IntKind.i64.wrap (b * d))))) := by
  refine pd_of (fn := Tryz.f58) [.tmp 4] (by kernel_rfl) rfl (by kernel_rfl) (Nat.le_of_ble_eq_true rfl) (by kernel_rfl) rfl rfl ?_
  refine awp_seq ?_
  refine awpF_region ?_; intro K hK; simp only [push_cast, seval]; (try simp (disch := omega) only [wrapI]); (repeat ((with_reducible refine And.intro ?_ ?_); (focus (exact ob1)))); refine hK _ ?_; clear hK; clear K
  refine awp_seq ?_
  refine awpF_region ?_; intro K hK; simp only [push_cast, seval]; (try simp (disch := omega) only [wrapI]); (repeat ((with_reducible refine And.intro ?_ ?_); (focus (exact ob1)))); refine hK _ ?_; clear hK; clear K
  refine awp_ret ?_; (repeat (first | refine then_ret ?_ | refine inblock_ret ?_)); refine fin_of (by simp only [push_cast, seval]; first | done | rfl) ob1 ?_
  rfl
theorem sq_le (x : Int) (h1 : -33554432 ≤ x) (h2 : x ≤ 33554432) : 0 ≤ x * x ∧ x * x ≤ 1125899906842624 := by
  have h := Int.mul_nonneg (show 0 ≤ 33554432 - x by omega) (show 0 ≤ 33554432 + x by omega)
  rw [Int.sub_mul, Int.mul_add, Int.mul_add] at h
  have h0 : 0 ≤ x * x := by
    rcases Int.le_total 0 x with h | h
    · exact Int.mul_nonneg h h
    · exact Int.mul_nonneg_of_nonpos_of_nonpos h h
  constructor
  · exact h0
  · omega

def dist2 (p q : Int × Int) : Int := if fair p.1 p.2 && fair q.1 q.2 then (q.1 - p.1) * (q.1 - p.1) + (q.2 - p.2) * (q.2 - p.2) else 0

theorem fair_iff {x y : Int} : fair x y = true ↔ -16777216 ≤ x ∧ x ≤ 16777216 ∧ -16777216 ≤ y ∧ y ≤ 16777216 := by simp [fair]

theorem dist2_wrap {a b c d : Int} (h1 : fair a b = true) (h2 : fair c d = true) :
    IntKind.i64.wrap (IntKind.i64.wrap (IntKind.i64.wrap (c - a) * IntKind.i64.wrap (c - a)) + IntKind.i64.wrap (IntKind.i64.wrap (d - b) * IntKind.i64.wrap (d - b))) = dist2 (a, b) (c, d) := by
  have e1 := fair_iff.1 h1
  have e2 := fair_iff.1 h2
  have s1 := sq_le (c - a) (by omega) (by omega)
  have s2 := sq_le (d - b) (by omega) (by omega)
  rw [wrapI (c - a) (by omega), wrapI (d - b) (by omega), wrapI ((c - a) * (c - a)) (by omega), wrapI ((d - b) * (d - b)) (by omega), wrapI _ (by omega)]
  simp [dist2, h1, h2]

def encS (p : Int × Int) : List D := [.int .i64 p.1, .int .i64 p.2]

theorem p99 (ps : List (Int × Int)) (hn : ps.length ≤ 1000000) : PD Tryz.prog 56 [.sl (ps.map encS)] (.d (.bool (ps.all fun p => fair p.1 p.2))) := by
  refine pd_of (fn := Tryz.f56) [.tmp 2] (by kernel_rfl) rfl (by kernel_rfl) (Nat.le_of_ble_eq_true rfl) (by kernel_rfl) rfl rfl ?_
  refine awp_seq ?_
  refine awpF_region ?_; intro K hK; simp only [push_cast, seval]; (try simp (disch := omega) only [wrapI]); (repeat ((with_reducible refine And.intro ?_ ?_); (focus (exact ob1)))); refine hK _ ?_; clear hK; clear K
  refine awp_seq ?_
  refine awp_seq ?_
  refine awpF_region ?_; intro K hK; simp only [push_cast, seval]; (try simp (disch := omega) only [wrapI]); (repeat ((with_reducible refine And.intro ?_ ?_); (focus (exact ob1)))); refine hK _ ?_; clear hK; clear K
  refine awp_block ?_
  refine awp_loopP (st := fun x : Nat => ⟨[(5, .d (.sl (ps.map encS))), (6, .d (.int .i64 ps.length)), (7, .d (.int .i64 x))], []⟩) (inv := fun x => x ≤ ps.length ∧ ∀ i p, i < x → ps[i]? = some p → fair p.1 p.2 = true) (μ := fun x => ps.length - x) (x0 := 0) (r0 := []) ?_ ?_ ?_
  · simp
  · exact ⟨by simp, by simp, by simp [push_cast, seval], by simp [push_cast, seval], by simp [push_cast, seval], by simp [push_cast, seval]⟩
  rintro x ⟨hx1, hx2⟩
  refine awp_seq ?_
  refine awpF_region ?_; intro K hK; simp only [push_cast, seval]; (try simp (disch := omega) only [wrapI]); (repeat ((with_reducible refine And.intro ?_ ?_); (focus (exact ob1)))); refine hK _ ?_; clear hK; clear K
  refine awp_seq ?_
  apply awp_cond; (focus (simp only [push_cast, seval]; rfl))
  · intro hb; (try simp only [decide_eq_true_eq, decide_eq_false_iff_not, Bool.not_eq_true', Bool.not_eq_false', Bool.and_eq_true, Bool.or_eq_true, Bool.not_eq_true] at hb)
    have hlt : x < ps.length := by omega
    obtain ⟨p, hp⟩ : ∃ p, ps[x]? = some p := ⟨_, List.getElem?_eq_getElem hlt⟩
    refine awp_skip ?_
    refine awp_seq ?_
    refine awp_block ?_
    refine awp_seq ?_
    refine awpF_region ?_; intro K hK; simp only [push_cast, seval, hp, encS]; (try simp (disch := omega) only [wrapI]); (repeat ((with_reducible refine And.intro ?_ ?_); (focus (exact ob1)))); refine hK _ ?_; clear hK; clear K
    refine awp_seq ?_
    refine awpF_region ?_; intro K hK; simp only [push_cast, seval]; (try simp (disch := omega) only [wrapI]); (repeat ((with_reducible refine And.intro ?_ ?_); (focus (exact ob1)))); refine hK _ ?_; clear hK; clear K
    apply awp_cond; (focus (simp only [push_cast, seval]; rfl))
    · intro hc; (try simp only [decide_eq_true_eq, decide_eq_false_iff_not, Bool.not_eq_true', Bool.not_eq_false', Bool.and_eq_true, Bool.or_eq_true, Bool.not_eq_true] at hc)
      refine awp_seq ?_
      refine awpF_region ?_; intro K hK; simp only [push_cast, seval]; (try simp (disch := omega) only [wrapI]); (repeat ((with_reducible refine And.intro ?_ ?_); (focus (exact ob1)))); refine hK _ ?_; clear hK; clear K
      refine awp_ret ?_; (repeat (first | refine then_ret ?_ | refine inblock_ret ?_)); refine fin_of (by simp only [push_cast, seval]; first | done | rfl) ob1 ?_
      have : ¬ fair p.1 p.2 = true := by
        rw [fair_iff]
        intro h
        simp at hc
        omega
      have h : ps.all (fun p => fair p.1 p.2) = false := by
        rw [Bool.eq_false_iff]
        exact fun h => this (List.all_eq_true.1 h p (List.mem_of_getElem? hp))
      rw [h]
    · intro hc; (try simp only [decide_eq_true_eq, decide_eq_false_iff_not, Bool.not_eq_true', Bool.not_eq_false', Bool.and_eq_true, Bool.or_eq_true, Bool.not_eq_true] at hc)
      refine awp_skip ?_
      refine awpF_region ?_; intro K hK; simp only [push_cast, seval]; (try simp (disch := omega) only [wrapI]); (repeat ((with_reducible refine And.intro ?_ ?_); (focus (exact ob1)))); refine hK _ ?_; clear hK; clear K
      refine round_end (y := x + 1) (r := []) (by omega) ⟨hlt, fun i q hi hq => ?_⟩ ?_
      · rcases Nat.lt_or_ge i x with h | h
        · exact hx2 i q h hq
        · have : i = x := by omega
          subst this
          rw [hp] at hq
          cases hq
          rw [fair_iff]
          simp at hc
          omega
      · exact ⟨by simp, by simp, by simp [push_cast, seval], by simp [push_cast, seval], by simp [push_cast, seval], by simp [push_cast, seval]⟩
  · intro hb; (try simp only [decide_eq_true_eq, decide_eq_false_iff_not, Bool.not_eq_true', Bool.not_eq_false', Bool.and_eq_true, Bool.or_eq_true, Bool.not_eq_true] at hb)
    refine awp_exit ?_; (repeat (first | refine then_exit ?_ | refine inblock_other (by decide) ?_)); refine inblock_same ?_
    refine awp_seq ?_
    refine awpF_region ?_; intro K hK; simp only [push_cast, seval]; (try simp (disch := omega) only [wrapI]); (repeat ((with_reducible refine And.intro ?_ ?_); (focus (exact ob1)))); refine hK _ ?_; clear hK; clear K
    refine awp_ret ?_; (repeat (first | refine then_ret ?_ | refine inblock_ret ?_)); refine fin_of (by simp only [push_cast, seval]; first | done | rfl) ob1 ?_
    have : ps.all (fun p => fair p.1 p.2) = true := List.all_eq_true.2 fun p hp => by
      obtain ⟨i, hi, rfl⟩ := List.getElem_of_mem hp
      exact hx2 i _ (by omega) (List.getElem?_eq_getElem hi)
    rw [this]

theorem p58 (a b c d : Int) : PD Tryz.prog 34 [.agg [.int .i64 a, .int .i64 b], .agg [.int .i64 c, .int .i64 d]] (.d (.int .i64 (dist2 (a, b) (c, d)))) := by
  have h99 := p99 [(a, b), (c, d)] (by simp)
  simp only [List.map_cons, List.map_nil, encS] at h99
  refine pd_of (fn := Tryz.f34) [.tmp 4] (by kernel_rfl) rfl (by kernel_rfl) (Nat.le_of_ble_eq_true rfl) (by kernel_rfl) rfl rfl ?_
  refine awp_seq ?_
  refine awpF_region ?_; intro K hK; simp only [push_cast, seval]; (try simp (disch := omega) only [wrapI]); (repeat ((with_reducible refine And.intro ?_ ?_); (focus (exact ob1)))); refine hK _ ?_; clear hK; clear K
  refine awp_seq ?_
  refine awp_seq ?_
  refine awpF_region ?_; intro K hK; simp only [push_cast, seval]
  (repeat ((with_reducible refine And.intro ?_ ?_); (focus (exact ob1))))
  refine CallK.pd (h99) ?_; simp only [push_cast, seval]; (try simp (disch := omega) only [wrapI]); (repeat ((with_reducible refine And.intro ?_ ?_); (focus (exact ob1))))
  refine hK _ ?_; clear hK; clear K
  apply awp_cond; (focus (simp only [push_cast, seval]; rfl))
  · intro hc; (try simp only [decide_eq_true_eq, decide_eq_false_iff_not, Bool.not_eq_true', Bool.not_eq_false', Bool.and_eq_true, Bool.or_eq_true, Bool.not_eq_true] at hc)
    refine awp_seq ?_
    refine awpF_region ?_; intro K hK; simp only [push_cast, seval]; (try simp (disch := omega) only [wrapI]); (repeat ((with_reducible refine And.intro ?_ ?_); (focus (exact ob1)))); refine hK _ ?_; clear hK; clear K
    refine awp_ret ?_; (repeat (first | refine then_ret ?_ | refine inblock_ret ?_)); refine fin_of (by simp only [push_cast, seval]; first | done | rfl) ob1 ?_
    have : dist2 (a, b) (c, d) = 0 := by
      simp only [dist2]
      simp at hc
      cases h1 : fair a b <;> simp [h1] at hc ⊢
      simp [hc]
    rw [this]
  · intro hc; (try simp only [decide_eq_true_eq, decide_eq_false_iff_not, Bool.not_eq_true', Bool.not_eq_false', Bool.and_eq_true, Bool.or_eq_true, Bool.not_eq_true] at hc)
    have hc : fair a b = true ∧ fair c d = true := by simpa using hc
    refine awp_skip ?_
    refine awp_seq ?_
    refine awpF_region ?_; intro K hK; simp only [push_cast, seval]
    (repeat ((with_reducible refine And.intro ?_ ?_); (focus (exact ob1))))
    refine CallK.pd (p100 _ _ _ _) ?_; simp only [push_cast, seval]; (try simp (disch := omega) only [wrapI]); (repeat ((with_reducible refine And.intro ?_ ?_); (focus (exact ob1))))
    refine hK _ ?_; clear hK; clear K
    refine awp_seq ?_
    refine awpF_region ?_; intro K hK; simp only [push_cast, seval]
    (repeat ((with_reducible refine And.intro ?_ ?_); (focus (exact ob1))))
    refine CallK.pd (p101 _ _ _ _) ?_; simp only [push_cast, seval]; (try simp (disch := omega) only [wrapI]); (repeat ((with_reducible refine And.intro ?_ ?_); (focus (exact ob1))))
    refine hK _ ?_; clear hK; clear K
    refine awp_ret ?_; (repeat (first | refine then_ret ?_ | refine inblock_ret ?_)); refine fin_of (by simp only [push_cast, seval]; first | done | rfl) ob1 ?_
    rw [dist2_wrap hc.1 hc.2]

theorem p33 (a b : List Int) (ha : a.length ≤ 1000000000) : PD Tryz.prog 8 [.sl (a.map encI), .sl (b.map encI)] (.d (.bool (a == b))) := by
  refine pd_of (fn := Tryz.f8) [.tmp 4] (by kernel_rfl) rfl (by kernel_rfl) (Nat.le_of_ble_eq_true rfl) (by kernel_rfl) rfl rfl ?_
  refine awp_seq ?_
  refine awpF_region ?_; intro K hK; simp only [push_cast, seval]; (try simp (disch := omega) only [wrapI]); (repeat ((with_reducible refine And.intro ?_ ?_); (focus (exact ob1)))); refine hK _ ?_; clear hK; clear K
  refine awp_seq ?_
  refine awp_seq ?_
  refine awpF_region ?_; intro K hK; simp only [push_cast, seval]; (try simp (disch := omega) only [wrapI]); (repeat ((with_reducible refine And.intro ?_ ?_); (focus (exact ob1)))); refine hK _ ?_; clear hK; clear K
  refine awp_block ?_
  refine awp_loopP (st := fun x : Nat => ⟨[(0, .d (.sl (a.map encI))), (1, .d (.sl (b.map encI))), (5, .d (.int .i64 x))], []⟩) (inv := fun x => x ≤ a.length ∧ x ≤ b.length ∧ ∀ i, i < x → a[i]? = b[i]?) (μ := fun x => a.length - x) (x0 := 0) (r0 := []) ?_ ?_ ?_
  · simp
  · exact ⟨by simp, by simp, by simp [push_cast, seval], by simp [push_cast, seval], by simp [push_cast, seval], by simp [push_cast, seval]⟩
  rintro x ⟨hx1, hx2, hx3⟩
  refine awp_seq ?_
  refine awp_seq ?_
  refine awpF_region ?_; intro K hK; simp only [push_cast, seval]; (try simp (disch := omega) only [wrapI]); (repeat ((with_reducible refine And.intro ?_ ?_); (focus (exact ob1)))); refine hK _ ?_; clear hK; clear K
  apply awp_cond; (focus (simp only [push_cast, seval]; rfl))
  · intro hb; (try simp only [decide_eq_true_eq, decide_eq_false_iff_not, Bool.not_eq_true', Bool.not_eq_false', Bool.and_eq_true, Bool.or_eq_true, Bool.not_eq_true] at hb)
    have hlt : x < a.length ∧ x < b.length := by simp at hb; omega
    obtain ⟨p, hp⟩ : ∃ p, a[x]? = some p := ⟨_, List.getElem?_eq_getElem hlt.1⟩
    obtain ⟨q, hq⟩ : ∃ p, b[x]? = some p := ⟨_, List.getElem?_eq_getElem hlt.2⟩
    refine awp_skip ?_
    refine awp_seq ?_
    refine awp_block ?_
    refine awp_seq ?_
    refine awpF_draw [0,1,2,3,4,5,6,7,8] (by kernel_rfl) (by kernel_rfl) rfl ?_; intro K hK; simp only [push_cast, seval, hp, hq, encI]
    (repeat ((with_reducible refine And.intro ?_ ?_); (focus (exact ob1))))
    refine hK _ ?_; clear hK; clear K
    apply awp_cond; (focus (simp only [push_cast, seval]; rfl))
    · intro hc; (try simp only [decide_eq_true_eq, decide_eq_false_iff_not, Bool.not_eq_true', Bool.not_eq_false', Bool.and_eq_true, Bool.or_eq_true, Bool.not_eq_true] at hc)
      refine awp_seq ?_
      refine awpF_region ?_; intro K hK; simp only [push_cast, seval]; (try simp (disch := omega) only [wrapI]); (repeat ((with_reducible refine And.intro ?_ ?_); (focus (exact ob1)))); refine hK _ ?_; clear hK; clear K
      refine awp_ret ?_; (repeat (first | refine then_ret ?_ | refine inblock_ret ?_)); refine fin_of (by simp only [push_cast, seval]; first | done | rfl) ob1 ?_
      have : (a == b) = false := by
        rw [beq_eq_false_iff_ne]
        rintro rfl
        rw [hp] at hq
        cases hq
        simp at hc
      rw [this]
    · intro hc; (try simp only [decide_eq_true_eq, decide_eq_false_iff_not, Bool.not_eq_true', Bool.not_eq_false', Bool.and_eq_true, Bool.or_eq_true, Bool.not_eq_true] at hc)
      refine awp_skip ?_
      refine awpF_region ?_; intro K hK; simp only [push_cast, seval]; (try simp (disch := omega) only [wrapI]); (repeat ((with_reducible refine And.intro ?_ ?_); (focus (exact ob1)))); refine hK _ ?_; clear hK; clear K
      refine round_end (y := x + 1) (r := []) (by omega) ⟨hlt.1, hlt.2, fun i hi => ?_⟩ ?_
      · rcases Nat.lt_or_ge i x with h | h
        · exact hx3 i h
        · have : i = x := by omega
          subst this
          simp at hc
          rw [hp, hq, hc]
      · exact ⟨by simp, by simp, by simp [push_cast, seval], by simp [push_cast, seval], by simp [push_cast, seval], by simp [push_cast, seval]⟩
  · intro hb; (try simp only [decide_eq_true_eq, decide_eq_false_iff_not, Bool.not_eq_true', Bool.not_eq_false', Bool.and_eq_true, Bool.or_eq_true, Bool.not_eq_true] at hb)
    refine awp_exit ?_; (repeat (first | refine then_exit ?_ | refine inblock_other (by decide) ?_)); refine inblock_same ?_
    refine awp_seq ?_
    refine awpF_region ?_; intro K hK; simp only [push_cast, seval]; (try simp (disch := omega) only [wrapI]); (repeat ((with_reducible refine And.intro ?_ ?_); (focus (exact ob1)))); refine hK _ ?_; clear hK; clear K
    refine awp_ret ?_; (repeat (first | refine then_ret ?_ | refine inblock_ret ?_)); refine fin_of (by simp only [push_cast, seval]; first | done | rfl) ob1 ?_
    congr 2
    rw [Bool.eq_iff_iff]
    simp at hb ⊢
    constructor
    · intro h
      apply List.ext_getElem?
      intro i
      rcases Nat.lt_or_ge i x with h' | h'
      · exact hx3 i h'
      · have : a.length ≤ i := by omega
        rw [List.getElem?_eq_none this, List.getElem?_eq_none (by omega)]
    · rintro rfl; rfl

end Go.Aw

namespace Go.Seg
set_option linter.unusedSimpArgs false
set_option linter.unusedVariables false

inductive Conn (near : Nat → Nat → Prop) : Nat → Nat → Prop
  | refl (i : Nat) : Conn near i i
  | step {i j k : Nat} (h : Conn near i j) (hn : near j k) : Conn near i k

theorem Conn.trans {near : Nat → Nat → Prop} {i j k : Nat} (h : Conn near i j) (h' : Conn near j k) : Conn near i k := by
  induction h' with
  | refl => exact h
  | step _ hn ih => exact .step ih hn
theorem Conn.symm {near : Nat → Nat → Prop} (hs : ∀ i j, near i j → near j i) {i j : Nat} (h : Conn near i j) : Conn near j i := by
  induction h with
  | refl => exact .refl _
  | step _ hn ih => exact Conn.trans (.step (.refl _) (hs _ _ hn)) ih

structure Lab (near : Nat → Nat → Prop) (n : Nat) (f : Nat → Nat) : Prop where
  le : ∀ i, i < n → f i ≤ i
  conn : ∀ i, i < n → Conn near i (f i)
  same : ∀ i j, i < n → j < n → near i j → f i = f j

theorem Lab.conn_same {near : Nat → Nat → Prop} {n : Nat} {f : Nat → Nat} (h : Lab near n f) (hb : ∀ i j, near i j → i < n ∧ j < n) {i j : Nat} (hc : Conn near i j) : f i = f j := by
  induction hc with
  | refl => rfl
  | step _ hn ih => exact ih.trans (h.same _ _ (hb _ _ hn).1 (hb _ _ hn).2 hn)
theorem Lab.unique {near : Nat → Nat → Prop} {n : Nat} {f g : Nat → Nat} (hf : Lab near n f) (hg : Lab near n g) (hb : ∀ i j, near i j → i < n ∧ j < n) (i : Nat) (hi : i < n) : f i = g i := by
  have h1 : f i ≤ g i := by
    rw [hf.conn_same hb (hg.conn i hi)]
    exact hf.le _ (Nat.lt_of_le_of_lt (hg.le i hi) hi)
  have h2 : g i ≤ f i := by
    rw [hg.conn_same hb (hf.conn i hi)]
    exact hg.le _ (Nat.lt_of_le_of_lt (hf.le i hi) hi)
  omega
def groups (f : Nat → Nat) (n : Nat) : List (List Nat) := ((List.range n).filter fun r => f r == r).map fun r => (List.range n).filter fun k => f k == r

theorem groups_congr {f g : Nat → Nat} {n : Nat} (h : ∀ i, i < n → f i = g i) : groups f n = groups g n := by
  have h1 : ((List.range n).filter fun r => f r == r) = ((List.range n).filter fun r => g r == r) := List.filter_congr fun r hr => by rw [h r (List.mem_range.1 hr)]
  unfold groups
  rw [h1]
  apply List.map_congr_left
  intro r _
  exact List.filter_congr fun k hk => by rw [h k (List.mem_range.1 hk)]

def root (up : List Nat) (i : Nat) : Nat := if up.getD i i < i then root up (up.getD i i) else i
termination_by i

theorem root_le (up : List Nat) (i : Nat) : root up i ≤ i := by
  induction i using Nat.strongRecOn with
  | _ i ih =>
    rw [root]
    split
    · have := ih _ (by assumption); omega
    · exact Nat.le_refl _
theorem root_root (up : List Nat) (i : Nat) : root up (root up i) = root up i := by
  induction i using Nat.strongRecOn with
  | _ i ih =>
    by_cases h : up.getD i i < i
    · have e : root up i = root up (up.getD i i) := by rw [root, if_pos h]
      rw [e]; exact ih _ h
    · have e : root up i = i := by rw [root, if_neg h]
      rw [e, e]
theorem root_fix {up : List Nat} {i : Nat} (h : ¬ up.getD i i < i) : root up i = i := by rw [root, if_neg h]
theorem root_go {up : List Nat} {i : Nat} (h : up.getD i i < i) : root up i = root up (up.getD i i) := by rw [root, if_pos h]
def Down (up : List Nat) : Prop := ∀ i, i < up.length → up.getD i i ≤ i

theorem getD_set (up : List Nat) (i x j d : Nat) (hi : i < up.length) : (up.set i x).getD j d = if j = i then x else up.getD j d := by
  simp only [List.getD_eq_getElem?_getD, List.getElem?_set]
  by_cases h : i = j
  · subst h; simp [hi]
  · simp [h, Ne.symm h]

theorem Down.set {up : List Nat} (h : Down up) {i x : Nat} (hi : i < up.length) (hx : x ≤ i) : Down (up.set i x) := by
  intro j hj
  rw [getD_set up i x j j hi]
  split
  · omega
  · exact h j (by simpa using hj)

theorem root_set {up : List Nat} {i : Nat} (hi : i < up.length) (j : Nat) : root (up.set i (root up i)) j = root up j := by
  induction j using Nat.strongRecOn with
  | _ j ih =>
    by_cases hj : j = i
    · subst hj
      by_cases h : root up j < j
      · have e : (up.set j (root up j)).getD j j = root up j := by rw [getD_set _ _ _ _ _ hi, if_pos rfl]
        rw [root_go (by rw [e]; exact h), e, ih _ h, root_root]
      · have e : (up.set j (root up j)).getD j j = root up j := by rw [getD_set _ _ _ _ _ hi, if_pos rfl]
        have := root_le up j
        rw [root_fix (by rw [e]; exact h)]
        omega
    · have e : (up.set i (root up i)).getD j j = up.getD j j := by rw [getD_set _ _ _ _ _ hi, if_neg hj]
      by_cases h : up.getD j j < j
      · rw [root_go (by rw [e]; exact h), e, ih _ h, ← root_go h]
      · rw [root_fix (by rw [e]; exact h), root_fix h]

theorem root_union {up : List Nat} {hi lo : Nat} (hh : hi < up.length) (h1 : root up hi = hi) (h2 : root up lo = lo) (hle : lo ≤ hi) (k : Nat) : root (up.set hi lo) k = if root up k = hi then lo else root up k := by
  induction k using Nat.strongRecOn with
  | _ k ih =>
    by_cases hk : k = hi
    · subst hk
      have e : (up.set k lo).getD k k = lo := by rw [getD_set _ _ _ _ _ hh, if_pos rfl]
      rw [if_pos h1]
      by_cases h : lo < k
      · rw [root_go (by rw [e]; exact h), e, ih _ h, h2]
        split
        · rfl
        · rfl
      · rw [root_fix (by rw [e]; exact h)]
        omega
    · have e : (up.set hi lo).getD k k = up.getD k k := by rw [getD_set _ _ _ _ _ hh, if_neg hk]
      by_cases h : up.getD k k < k
      · rw [root_go (by rw [e]; exact h), e, ih _ h, root_go h]
      · rw [root_fix (by rw [e]; exact h), root_fix h, if_neg hk]

structure Same (up up' : List Nat) : Prop where
  len : up'.length = up.length
  down : Down up'
  root : ∀ j, root up' j = root up j

theorem Same.refl {up : List Nat} (h : Down up) : Same up up := ⟨rfl, h, fun _ => rfl⟩
theorem Same.trans {a b c : List Nat} (h : Same a b) (h' : Same b c) : Same a c := ⟨h'.len.trans h.len, h'.down, fun j => (h'.root j).trans (h.root j)⟩

theorem Same.cut {up up' : List Nat} {i : Nat} (hi : i < up.length) (h : Same up up') : Same up (up'.set i (Seg.root up i)) := by
  have e : Seg.root up i = Seg.root up' i := (h.root i).symm
  have hl : i < up'.length := by rw [h.len]; exact hi
  refine ⟨by simp [h.len], h.down.set hl (root_le up i), fun j => ?_⟩
  rw [e, root_set hl, h.root]

structure Mid (near : Nat → Nat → Prop) (n : Nat) (done : Nat → Nat → Prop) (up : List Nat) : Prop where
  len : up.length = n
  down : Down up
  conn : ∀ i, i < n → Conn near i (root up i)
  same : ∀ i j, done i j → near i j → root up i = root up j

theorem Mid.start (near : Nat → Nat → Prop) (n : Nat) : Mid near n (fun _ _ => False) (List.range n) := by
  have hg : ∀ i, (List.range n).getD i i = i := fun i => by
    simp only [List.getD_eq_getElem?_getD]
    by_cases h : i < n
    · simp [List.getElem?_range h]
    · rw [List.getElem?_eq_none (by simpa using h)]; rfl
  refine ⟨by simp, fun i _ => by rw [hg]; exact Nat.le_refl _, fun i _ => ?_, fun _ _ h => h.elim⟩
  rw [root_fix (by rw [hg]; exact Nat.lt_irrefl _)]
  exact .refl _

theorem Mid.same_up {near : Nat → Nat → Prop} {n : Nat} {done : Nat → Nat → Prop} {up up' : List Nat} (h : Mid near n done up) (hs : Same up up') : Mid near n done up' :=
  ⟨hs.len.trans h.len, hs.down, fun i hi => by rw [hs.root]; exact h.conn i hi, fun i j hd hn => by rw [hs.root, hs.root]; exact h.same i j hd hn⟩

theorem Mid.more {near : Nat → Nat → Prop} {n : Nat} {done done' : Nat → Nat → Prop} {up : List Nat} (h : Mid near n done up) (hd : ∀ i j, done' i j → near i j → done i j) : Mid near n done' up :=
  ⟨h.len, h.down, h.conn, fun i j h1 h2 => h.same i j (hd i j h1 h2) h2⟩

theorem Mid.union {near : Nat → Nat → Prop} (hs : ∀ i j, near i j → near j i) {n : Nat} {done : Nat → Nat → Prop} {up : List Nat} (h : Mid near n done up) {i j : Nat} (hi : i < n) (hj : j < n) (hn : near i j) :
    Mid near n (fun a b => done a b ∨ (a = i ∧ b = j)) (up.set (max (root up i) (root up j)) (min (root up i) (root up j))) := by
  have hri := root_le up i
  have hrj := root_le up j
  have hhi : max (root up i) (root up j) < up.length := by rw [h.len]; omega
  have hfix1 : root up (max (root up i) (root up j)) = max (root up i) (root up j) := by
    rcases Nat.le_total (root up i) (root up j) with hle | hle
    · rw [Nat.max_eq_right hle, root_root]
    · rw [Nat.max_eq_left hle, root_root]
  have hfix2 : root up (min (root up i) (root up j)) = min (root up i) (root up j) := by
    rcases Nat.le_total (root up i) (root up j) with hle | hle
    · rw [Nat.min_eq_left hle, root_root]
    · rw [Nat.min_eq_right hle, root_root]
  have hle : min (root up i) (root up j) ≤ max (root up i) (root up j) := by omega
  have hu := root_union hhi hfix1 hfix2 hle
  have hij : Conn near (root up i) (root up j) := (Conn.symm hs (h.conn i hi)).trans ((Conn.step (.refl _) hn).trans (h.conn j hj))
  refine ⟨by simp [h.len], h.down.set hhi hle, fun k hk => ?_, fun a b hd hab => ?_⟩
  · rw [hu]
    split
    · rename_i hr
      have := h.conn k hk
      rw [hr] at this
      refine this.trans ?_
      rcases Nat.le_total (root up i) (root up j) with hle | hle
      · rw [Nat.max_eq_right hle, Nat.min_eq_left hle]; exact Conn.symm hs hij
      · rw [Nat.max_eq_left hle, Nat.min_eq_right hle]; exact hij
    · exact h.conn k hk
  · rw [hu, hu]
    rcases hd with hd | ⟨rfl, rfl⟩
    · rw [h.same a b hd hab]
    · rcases Nat.le_total (root up a) (root up b) with hle | hle
      · rw [Nat.max_eq_right hle, Nat.min_eq_left hle, if_pos rfl]
        split
        · rfl
        · rfl
      · rw [Nat.max_eq_left hle, Nat.min_eq_right hle, if_pos rfl]
        split
        · rfl
        · rfl

theorem Mid.lab {near : Nat → Nat → Prop} (hs : ∀ i j, near i j → near j i) {n : Nat} {up : List Nat} (h : Mid near n (fun a b => b < a ∧ a < n) up) : Lab near n (root up) := by
  refine ⟨fun i _ => root_le up i, h.conn, fun i j hi hj hn => ?_⟩
  rcases Nat.lt_trichotomy i j with hlt | heq | hgt
  · exact (h.same j i ⟨hlt, hj⟩ (hs _ _ hn)).symm
  · rw [heq]
  · exact h.same i j ⟨hgt, hi⟩ hn

def part (f : Nat → Nat) (i : Nat) : List (List Nat) := ((List.range i).filter fun r => f r == r).map fun r => (List.range i).filter fun k => f k == r

theorem part_new {f : Nat → Nat} {i : Nat} (hle : ∀ k, k < i → f k ≤ k) (h : f i = i) : part f (i + 1) = part f i ++ [[i]] := by
  unfold part
  rw [List.range_succ, List.filter_append, List.map_append]
  simp only [List.filter_cons, List.filter_nil, h, beq_self_eq_true, if_true, List.map_cons, List.map_nil]
  congr 1
  · apply List.map_congr_left
    intro r hr
    rw [List.filter_append]
    have : r < i := List.mem_range.1 (List.mem_filter.1 hr).1
    simp [h, Ne.symm (Nat.ne_of_lt this)]
  · rw [List.filter_append]
    have : (List.range i).filter (fun k => f k == i) = [] := by
      rw [List.filter_eq_nil_iff]
      intro k hk
      have h1 := List.mem_range.1 hk
      have h2 := hle k h1
      simp; omega
    rw [this]
    simp [h]

def place (f : Nat → Nat) (i r : Nat) : Option Nat := ((List.range i).filter fun r => f r == r).findIdx? fun x => x == r

theorem place_new {f : Nat → Nat} {i : Nat} : place f i i = none := by
  unfold place
  rw [List.findIdx?_eq_none_iff]
  intro x hx
  have := List.mem_range.1 (List.mem_filter.1 hx).1
  simp; omega

theorem place_old {f : Nat → Nat} {i r : Nat} (hr : r < i) (h : f r = r) : ∃ k, place f i r = some k ∧ ((List.range i).filter fun r => f r == r)[k]? = some r := by
  unfold place
  cases hp : ((List.range i).filter fun r => f r == r).findIdx? fun x => x == r with
  | none =>
    rw [List.findIdx?_eq_none_iff] at hp
    have := hp r (List.mem_filter.2 ⟨List.mem_range.2 hr, by simp [h]⟩)
    simp at this
  | some k =>
    rw [List.findIdx?_eq_some_iff_getElem] at hp
    obtain ⟨h1, h2, _⟩ := hp
    refine ⟨k, rfl, ?_⟩
    rw [List.getElem?_eq_getElem h1]
    simpa using h2

theorem part_old {f : Nat → Nat} {i k : Nat} (hlt : f i < i) (hk : ((List.range i).filter fun r => f r == r)[k]? = some (f i)) :
    part f (i + 1) = (part f i).modify k fun g => g ++ [i] := by
  have hnd : ((List.range i).filter fun r => f r == r).Nodup := List.nodup_range.filter _
  have hki : f i ≠ i := by omega
  unfold part
  rw [List.range_succ, List.filter_append]
  simp only [List.filter_cons, List.filter_nil, beq_iff_eq, hki, if_false, List.append_nil, List.filter_append]
  apply List.ext_getElem?
  intro q
  rw [List.getElem?_modify]
  simp only [List.getElem?_map]
  cases hq : ((List.range i).filter fun r => f r == r)[q]? with
  | none => simp
  | some r =>
    simp only [Option.map_some, Option.map_eq_map]
    by_cases hkq : k = q
    · subst hkq
      rw [hk] at hq
      cases hq
      simp
    · have : r ≠ f i := by
        intro hr
        subst hr
        exact hkq ((List.getElem?_inj (List.getElem?_eq_some_iff.1 hk).1 hnd).1 (hk.trans hq.symm))
      simp [hkq, Ne.symm this]

end Go.Seg

namespace Go.Aw
set_option linter.unusedSimpArgs false
set_option linter.unusedVariables false
open Go.RowKit Go.Proofs Go.Seg

def encN (x : Nat) : List D := [.int .i64 x]

def segHeap (n : Nat) (up : List Nat) (T : List Blk) : List Blk := .data 1 (up.map encN) :: .cells [.ref 0 0 n] :: .cells [.fn (.func 38) [.ptr 1 0 0, .ptr 2 0 0]] :: T

theorem getD_of {up : List Nat} {i x d : Nat} (h : up[i]? = some x) : up.getD i d = x := by simp [List.getD_eq_getElem?_getD, h]

theorem p57 (T : List Blk) (n : Nat) : ∀ (i : Nat) (up : List Nat), up.length = n → Down up → i < n → AC Tryz.prog 38 [.d (.int .i64 i), .ptr 1 0 0, .ptr 2 0 0] (segHeap n up T) (List.range (segHeap n up T).length)
    fun x H' => x = .d (.int .i64 (root up i)) ∧ ∃ up', Same up up' ∧ H' = segHeap n up' T := by
  intro i
  induction i using Nat.strongRecOn with
  | _ i ih =>
  intro up hn hd hin
  have hi : i < up.length := by omega
  obtain ⟨x, hx⟩ : ∃ x, up[i]? = some x := ⟨_, List.getElem?_eq_getElem hi⟩
  have hle : x ≤ i := by have := hd i hi; rwa [getD_of hx] at this
  rw [segHeap]
  refine ac_ofF (fn := Tryz.f38) [.tmp 4] (by kernel_rfl) rfl (by kernel_rfl) (Nat.le_of_ble_eq_true rfl) (by kernel_rfl) rfl ?_
  refine awp_seq ?_
  refine awpF_region ?_; intro K hK; simp only [push_cast, seval]; (try simp (disch := omega) only [wrapI]); (repeat ((with_reducible refine And.intro ?_ ?_); (focus (exact ob1)))); refine hK _ ?_; clear hK; clear K
  refine awp_seq ?_
  refine awp_seq ?_
  refine awpF_region ?_; intro K hK; simp only [push_cast, seval, hx, encN]
  (repeat ((with_reducible refine And.intro ?_ ?_); (focus (exact ob1))))
  refine hK _ ?_; clear hK; clear K
  apply awp_cond; (focus (simp only [push_cast, seval]; rfl))
  · intro hc; (try simp only [decide_eq_true_eq, decide_eq_false_iff_not, Bool.not_eq_true', Bool.not_eq_false', Bool.and_eq_true, Bool.or_eq_true, Bool.not_eq_true] at hc)
    have hne : x ≠ i := by simp at hc; omega
    have hlt : x < i := by omega
    refine awpF_drawH [7] [1,2] [6] [0,1,2,3,4,5,6,7,8,9] (by kernel_rfl) (by kernel_rfl) (by simp only [srt, Nat.reduceLT, decide_true, Bool.and_self]) (by kernel_rfl) (by kernel_rfl) ?_; intro K hK; simp only [push_cast, seval, hx, encN]
    (repeat ((with_reducible refine And.intro ?_ ?_); (focus (exact ob1))))
    refine HeapK.mk _ (ih x hlt up hn hd (by omega)) ?_
    rintro _ _ ⟨rfl, up', hS, rfl⟩
    have hil : i < up'.length := by rw [hS.len]; exact hi
    have hgo : root up i = root up x := by
      have h := root_go (up := up) (i := i) (by rw [getD_of hx]; exact hlt)
      rwa [getD_of hx] at h
    rw [segHeap]
    simp only [push_cast, seval, encN, RoS, shp, forall_eq_or_imp, forall_eq]
    refine ⟨fun id => by rcases id with _ | id <;> rfl, by omega, by omega, ?_⟩
    refine hK _ ?_; clear hK; clear K
    have hmap : (List.map encN up').set i [D.int IntKind.i64 (root up x)] = (up'.set i (root up x)).map encN := by rw [List.map_set]; rfl
    have hgot : (up'.set i (root up x))[i]? = some (root up x) := by simp [hil]
    have hdn : Same up (up'.set i (root up x)) := by
      have := Same.cut hi hS
      rwa [hgo] at this
    rw [hmap]
    refine awp_seq ?_
    refine awpF_region ?_; intro K hK; simp only [push_cast, seval, hgot, encN]
    (repeat ((with_reducible refine And.intro ?_ ?_); (focus (exact ob1))))
    refine hK _ ?_; clear hK; clear K
    refine awp_ret ?_; (repeat (first | refine then_ret ?_ | refine inblock_ret ?_)); refine fin_of (by simp only [push_cast, seval]; first | done | rfl) ob1 ?_
    refine ⟨by rw [hgo], _, hdn, ?_⟩
    simp [segHeap, encN]
  · intro hc; (try simp only [decide_eq_true_eq, decide_eq_false_iff_not, Bool.not_eq_true', Bool.not_eq_false', Bool.and_eq_true, Bool.or_eq_true, Bool.not_eq_true] at hc)
    have hxi : x = i := by simp at hc; omega
    subst hxi
    have hroot : root up x = x := root_fix (by rw [getD_of hx]; exact Nat.lt_irrefl _)
    refine awp_skip ?_
    refine awp_seq ?_
    refine awpF_region ?_; intro K hK; simp only [push_cast, seval, hx, encN]; (try simp (disch := omega) only [wrapI]); (repeat ((with_reducible refine And.intro ?_ ?_); (focus (exact ob1)))); refine hK _ ?_; clear hK; clear K
    refine awp_ret ?_; (repeat (first | refine then_ret ?_ | refine inblock_ret ?_)); refine fin_of (by simp only [push_cast, seval]; first | done | rfl) ob1 ?_
    exact ⟨by rw [hroot], up, .refl hd, rfl⟩

end Go.Aw

namespace Go.Aw
set_option linter.unusedSimpArgs false
set_option linter.unusedVariables false
open Go.RowKit Go.Proofs Go.Seg

theorem round_endG {Q : Exit → St → Prop} {α : Type} {Φ : α → List Nat → St → Prop} {u : St} (y : α) (r : List Nat) (h : Φ y r u) : Then (fun u => ∃ y r, Φ y r u) Q .normal u := ⟨y, r, h⟩

def ptS (p : Pt) : Int × Int := (p.1, p.2.1)
def near (ps : List Pt) (gap : Int) (i j : Nat) : Prop := ∃ p q, ps[i]? = some p ∧ ps[j]? = some q ∧ dist2 (ptS p) (ptS q) ≤ gap * gap

theorem dist2_symm (p q : Int × Int) : dist2 p q = dist2 q p := by
  unfold dist2
  rw [Bool.and_comm]
  split
  · rw [show p.1 - q.1 = -(q.1 - p.1) by omega, show p.2 - q.2 = -(q.2 - p.2) by omega, Int.neg_mul_neg, Int.neg_mul_neg]
  · rfl
theorem near_symm {ps : List Pt} {gap : Int} (i j : Nat) (h : near ps gap i j) : near ps gap j i := by
  obtain ⟨p, q, h1, h2, h3⟩ := h
  exact ⟨q, p, h2, h1, by rw [dist2_symm]; exact h3⟩
theorem near_lt {ps : List Pt} {gap : Int} (i j : Nat) (h : near ps gap i j) : i < ps.length ∧ j < ps.length := by
  obtain ⟨p, q, h1, h2, h3⟩ := h
  exact ⟨(List.getElem?_eq_some_iff.1 h1).1, (List.getElem?_eq_some_iff.1 h2).1⟩

def segErr (ps : List Pt) (gap : Int) : Int := if check ps ≠ 0 then check ps else if gap < 0 ∨ gap > 33554432 then 2 else 0

def fillN (n x : Nat) : List (List D) := (List.range n).map fun i => if i < x then encN i else encN 0

theorem fillN_zero (n : Nat) : fillN n 0 = List.replicate n [.int .i64 0] := by
  unfold fillN
  apply List.ext_getElem?
  intro i
  simp only [List.getElem?_map, List.getElem?_replicate, Nat.not_lt_zero, if_false]
  by_cases h : i < n
  · simp [h, encN]
  · simp [h, List.getElem?_eq_none (show (List.range n).length ≤ i by simp; omega)]
theorem fillN_end (n : Nat) : fillN n n = (List.range n).map encN := by
  unfold fillN
  apply List.map_congr_left
  intro i hi
  simp [List.mem_range.1 hi]
theorem fillN_set {n x : Nat} (hx : x < n) : (fillN n x).set x [.int .i64 (x : Int)] = fillN n (x + 1) := by
  unfold fillN
  apply List.ext_getElem?
  intro i
  simp only [List.getElem?_set, List.getElem?_map, List.length_map, List.length_range]
  by_cases h : x = i
  · subst h; simp [hx, List.getElem?_range hx, encN]
  · simp only [h, if_false]
    by_cases hi : i < n
    · simp only [List.getElem?_range hi, Option.map_some]
      congr 1
      by_cases h1 : i < x
      · rw [if_pos h1, if_pos (by omega)]
      · rw [if_neg h1, if_neg (by omega)]
    · rw [List.getElem?_eq_none (by simp; omega)]; rfl

def esFrom : Nat → List Nat → List (V × V)
  | _, [] => []
  | k, r :: l => (.d (.int .i64 r), .d (.int .i64 k)) :: esFrom (k + 1) l

theorem esFrom_get : ∀ (l : List Nat) (k j : Nat), (esFrom k l)[j]? = (l[j]?).map fun r => (.d (.int .i64 r), .d (.int .i64 (k + j : Nat)))
  | [], k, j => by simp [esFrom]
  | r :: l, k, 0 => by simp [esFrom]
  | r :: l, k, j + 1 => by
    simp only [esFrom, List.getElem?_cons_succ]
    rw [esFrom_get l (k + 1) j]
    cases l[j]? with
    | none => rfl
    | some x => simp only [Option.map_some]; congr 4; omega
theorem esFrom_append : ∀ (l : List Nat) (k r : Nat), esFrom k (l ++ [r]) = esFrom k l ++ [(.d (.int .i64 r), .d (.int .i64 (k + l.length : Nat)))]
  | [], k, r => by simp [esFrom]
  | x :: l, k, r => by
    simp only [List.cons_append, esFrom, List.length_cons]
    rw [esFrom_append l (k + 1) r]
    congr 6
    omega
theorem esFrom_find : ∀ (l : List Nat) (k r : Nat), mfind (esFrom k l) (.d (.int .i64 r)) = l.findIdx? fun x => x == r
  | [], k, r => rfl
  | x :: l, k, r => by
    simp only [mfind, esFrom, List.findIdx?_cons, kcells]
    have ih := esFrom_find l (k + 1) r
    simp only [mfind, kcells] at ih
    by_cases h : x = r
    · subst h; simp
    · have h1 : ¬ (x : Int) = (r : Int) := by omega
      simp [h, h1, ih]
theorem esFrom_mem {l : List Nat} {k : Nat} {p : V × V} (h : p ∈ esFrom k l) : ∃ r, r ∈ l ∧ p.1 = .d (.int .i64 (r : Int)) := by
  obtain ⟨j, hj, rfl⟩ := List.getElem_of_mem h
  have := List.getElem?_eq_getElem hj
  rw [esFrom_get] at this
  simp only [Option.map_eq_some_iff] at this
  obtain ⟨r, hr, he⟩ := this
  exact ⟨r, List.mem_of_getElem? hr, by rw [← he]⟩
theorem esFrom_scr (i : Nat) : ∀ (l : List Nat) (k : Nat), (esFrom k l).map (fun p => (scr i p.1, scr i p.2)) = esFrom k l
  | [], k => rfl
  | x :: l, k => by
    have h := esFrom_scr i l (k + 1)
    simp only [esFrom, List.map_cons, h]
    simp [scr, V.has]

theorem key3 : Maps.Keyed Tryz.prog 3 := Maps.int_keyed (q := .i64) (by kernel_rfl)
theorem kwf3 {x : Int} (h0 : -9223372036854775808 ≤ x) (h1 : x ≤ 9223372036854775807) : kwf Tryz.prog 3 (.d (.int .i64 x)) :=
  ⟨_, _, rfl, Maps.keyOf_int_mk (q := .i64) (by kernel_rfl) (by simp only [Lit.wf, IntKind.min, IntKind.max, IntKind.bits, IntKind.signed]; simp; omega)⟩
theorem mk3 {l : List Nat} {n : Nat} (hn : n ≤ 1000000) (hl : ∀ r, r ∈ l → r < n) (hd : l.Nodup) (k : Nat) : MK Tryz.prog 3 (esFrom k l) := by
  refine ⟨key3, fun p hp => ?_, ?_⟩
  · obtain ⟨r, hr, he⟩ := esFrom_mem hp
    have := hl r hr
    rw [he]
    exact kwf3 (by omega) (by omega)
  · rw [List.pairwise_iff_getElem]
    intro i j hi hj hij
    have e1 := List.getElem?_eq_getElem hi
    have e2 := List.getElem?_eq_getElem hj
    rw [esFrom_get] at e1 e2
    simp only [Option.map_eq_some_iff] at e1 e2
    obtain ⟨r1, hr1, h1⟩ := e1
    obtain ⟨r2, hr2, h2⟩ := e2
    rw [← h1, ← h2]
    simp only [kcells]
    intro h
    have h : r1 = r2 := by simp at h; omega
    subst h
    have := (List.getElem?_inj (List.getElem?_eq_some_iff.1 hr1).1 hd).1 (hr1.trans hr2.symm)
    omega

def roots (f : Nat → Nat) (i : Nat) : List Nat := (List.range i).filter fun r => f r == r
theorem roots_nd (f : Nat → Nat) (i : Nat) : (roots f i).Nodup := List.nodup_range.filter _
theorem roots_lt {f : Nat → Nat} {i r : Nat} (h : r ∈ roots f i) : r < i := List.mem_range.1 (List.mem_filter.1 h).1
theorem roots_len (f : Nat → Nat) (i : Nat) : (roots f i).length = (Seg.part f i).length := by simp [roots, Seg.part]

def gblk (g : List Nat) : Blk := .data 1 (g.map encN)
def refs (gs : List (List Nat)) : List (List V) := (List.range gs.length).map fun k => [.ref (k + 1 + 1 + 1 + 1 + 1) 0 (gs.getD k []).length]
theorem refs_get {gs : List (List Nat)} {k : Nat} {g : List Nat} (h : gs[k]? = some g) : (refs gs)[k]? = some [.ref (k + 1 + 1 + 1 + 1 + 1) 0 g.length] := by
  have hk : k < gs.length := (List.getElem?_eq_some_iff.1 h).1
  simp [refs, List.getElem?_range hk, List.getD_eq_getElem?_getD, h]
theorem refs_len (gs : List (List Nat)) : (refs gs).length = gs.length := by simp [refs]

theorem deep_tup2 {H : List Blk} {x y : V} {d e : D} (h1 : Deep H x d) (h2 : Deep H y e) : Deep H (.tup [x, y]) (.tup [d, e]) := by
  refine .tup _ _ rfl fun j u v hu hv => ?_
  match j with
  | 0 => simp at hu hv; subst hu hv; exact h1
  | 1 => simp at hu hv; subst hu hv; exact h2
  | j + 2 => simp at hu

theorem esFrom_ren (r : List Nat) : ∀ (l : List Nat) (k : Nat), (esFrom k l).map (fun p => (V.ren r p.1, V.ren r p.2)) = esFrom k l
  | [], k => rfl
  | x :: l, k => by simp only [esFrom, List.map_cons, esFrom_ren r l (k + 1), V.ren]
theorem esFrom_bel (n : Nat) : ∀ (l : List Nat) (k : Nat), (esFrom k l).all (fun p => V.bel n p.1 && V.bel n p.2) = true
  | [], k => rfl
  | x :: l, k => by simp only [esFrom, List.all_cons, esFrom_bel n l (k + 1), V.bel]; rfl

theorem seg_ren {n : Nat} {up l : List Nat} {gs' : List (List Nat)} {tm tm' : List (Nat × V)} {X : List Blk} {rs : List (List V)} (r : List Nat) (nd : r.Nodup) (hr : ∀ j, j < 5 → r[j]? = some j) (hrl : r.length = gs'.length + 5)
    (hG : ∀ j gk, gs'[j]? = some gk → ∃ q, r[j + 5]? = some (q + 5) ∧ X[q]? = some (gblk gk)) (hV : (refs gs').map (fun q => V.renL r q) = rs) (htm : subTm (renTm r tm') tm) (bt : belTm r.length tm' = true) :
    Ren [] r ⟨tm', segHeap n up (.mp (esFrom 0 l) :: .vrs 1 (refs gs') :: gs'.map gblk)⟩ ⟨tm, .data 1 (up.map encN) :: .cells [.ref 0 0 n] :: .cells [.fn (.func 38) [.ptr 1 0 0, .ptr 2 0 0]] :: .mp (esFrom 0 l) :: .vrs 1 rs :: X⟩ := by
  refine ren_of nd ?_ ?_ htm bt ?_
  · simp only [segHeap, List.length_cons, List.length_map, hrl]
  · intro j b hb
    simp only [segHeap] at hb ⊢
    match j with
    | 0 => simp at hb; subst hb; exact ⟨0, hr 0 (by omega), rfl⟩
    | 1 => simp at hb; subst hb; exact ⟨1, hr 1 (by omega), by simp [Blk.ren, V.renL, V.ren, hr 0 (by omega)]⟩
    | 2 => simp at hb; subst hb; exact ⟨2, hr 2 (by omega), by simp [Blk.ren, V.renL, V.ren, hr 1 (by omega), hr 2 (by omega)]⟩
    | 3 => simp at hb; subst hb; exact ⟨3, hr 3 (by omega), by simp [Blk.ren, esFrom_ren]⟩
    | 4 => simp at hb; subst hb; exact ⟨4, hr 4 (by omega), by simp only [Blk.ren, hV]; rfl⟩
    | j + 5 =>
      have hb : (gs'.map gblk)[j]? = some b := hb
      simp only [List.getElem?_map, Option.map_eq_some_iff] at hb
      obtain ⟨gk, h1, rfl⟩ := hb
      obtain ⟨q, h2, h3⟩ := hG j gk h1
      exact ⟨q + 5, h2, h3⟩
  · intro b hb
    simp only [segHeap, List.mem_cons, List.mem_map] at hb
    rcases hb with rfl | rfl | rfl | rfl | rfl | ⟨g, _, rfl⟩
    · rfl
    · simp [Blk.bel, V.belL, V.bel]; omega
    · simp [Blk.bel, V.belL, V.bel]; omega
    · exact esFrom_bel _ _ _
    · simp only [Blk.bel, refs, List.all_map, List.all_eq_true, List.mem_range]
      intro k hk
      simp [V.belL, V.bel]; omega
    · rfl

theorem refs_ren_old {gs : List (List Nat)} {r : List Nat} (hr : ∀ j, j < gs.length + 5 → r[j]? = some j) : (refs gs).map (fun q => V.renL r q) = refs gs := by
  simp only [refs, List.map_map]
  apply List.map_congr_left
  intro k hk
  have := hr (k + 5) (by have := List.mem_range.1 hk; omega)
  simp only [Function.comp, V.renL, V.ren, List.getD_eq_getElem?_getD]
  rw [show k + 1 + 1 + 1 + 1 + 1 = k + 5 by omega, this]
  rfl

theorem refs_snoc (gs : List (List Nat)) (g : List Nat) : refs (gs ++ [g]) = refs gs ++ [[.ref (gs.length + 1 + 1 + 1 + 1 + 1) 0 g.length]] := by
  simp only [refs, List.length_append, List.length_cons, List.length_nil, Nat.zero_add, List.range_succ, List.map_append, List.map_cons, List.map_nil]
  congr 1
  · apply List.map_congr_left
    intro k hk
    have := List.mem_range.1 hk
    simp [List.getD_eq_getElem?_getD, List.getElem?_append_left this]
  · simp [List.getD_eq_getElem?_getD]

theorem refs_modify {gs : List (List Nat)} {k i : Nat} {g : List Nat} (h : gs[k]? = some g) : refs (gs.modify k fun g => g ++ [i]) = (refs gs).set k [.ref (k + 1 + 1 + 1 + 1 + 1) 0 (g.length + 1)] := by
  have hk : k < gs.length := (List.getElem?_eq_some_iff.1 h).1
  apply List.ext_getElem?
  intro j
  simp only [refs, List.length_modify, List.getElem?_set, List.length_map, List.length_range, List.getElem?_map]
  by_cases hj : j < gs.length
  · simp only [List.getElem?_range hj, Option.map_some, List.getD_eq_getElem?_getD, List.getElem?_modify]
    by_cases hjk : k = j
    · subst hjk
      simp only [h, hk, if_true, Option.getD_some, Option.map_some, List.length_append, List.length_cons, List.length_nil, Nat.zero_add, Option.map_eq_map]
    · simp [hjk]
  · rw [List.getElem?_eq_none (by simp; omega)]
    by_cases hjk : k = j
    · omega
    · simp [hjk]

theorem refs_scr {gs : List (List Nat)} {k : Nat} (hk : k < gs.length) : (refs gs).map (fun r => scrL (k + 1 + 1 + 1 + 1 + 1) r) = (refs gs).set k [.junk] := by
  apply List.ext_getElem?
  intro j
  simp only [List.getElem?_set, List.getElem?_map, refs_len]
  by_cases hj : j < gs.length
  · have h := refs_get (List.getElem?_eq_getElem hj)
    by_cases hjk : k = j
    · subst hjk
      simp [h, hk, scrL, scr, V.has]
    · have : ¬ j = k := fun e => hjk e.symm
      simp [h, hjk, this, scrL, scr, V.has]
  · have h : (refs gs)[j]? = none := List.getElem?_eq_none (by rw [refs_len]; omega)
    by_cases hjk : k = j
    · omega
    · simp [h, hjk]

theorem deep_groups {H : List Blk} {gs : List (List Nat)} (h4 : H[4]? = some (.vrs 1 (refs gs))) (hg : ∀ (j : Nat) (g : List Nat), gs[j]? = some g → H[j + 5]? = some (gblk g)) : Deep H (.ref 4 0 gs.length) (.sl (gs.map fun g => [.sl (g.map encN)])) := by
  have := Deep.vrs (H := H) 4 1 (refs gs) (gs.map fun g => [.sl (g.map encN)]) h4 (by simp [refs_len]) (fun i row hi => by
    simp only [List.getElem?_map, Option.map_eq_some_iff] at hi
    obtain ⟨g, _, rfl⟩ := hi
    rfl) (fun i row drow j x y h1 h2 h3 h5 => by
    simp only [List.getElem?_map, Option.map_eq_some_iff] at h2
    obtain ⟨g, hgi, rfl⟩ := h2
    rw [refs_get hgi] at h1
    simp at h1
    subst h1
    match j with
    | 0 =>
      simp at h3 h5
      subst h3 h5
      have := Deep.data (H := H) (i + 5) 0 g.length 1 (g.map encN) (hg i g hgi) (by simp)
      rw [List.drop_zero, List.take_of_length_le (by simp)] at this
      exact this
    | j + 1 => simp at h3)
  rwa [refs_len] at this

theorem renL_one (r : List Nat) (x : V) : V.renL r [x] = [V.ren r x] := rfl

end Go.Aw
