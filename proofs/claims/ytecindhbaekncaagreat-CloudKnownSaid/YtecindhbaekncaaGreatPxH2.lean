/-
  Contracts of Side, Cross, between and Blocks, on both sides. Conditions: none (spots that are not valid are refused).
-/
import Derived.Test.YtecindhbaekncaaGreatPxH1
import Derived.Test.YtecindhbaekncaaGreatPcA
import Derived.Test.YtecindhbaekncaaGreatPcD
namespace Go.Aw
set_option linter.unusedSimpArgs false
set_option linter.unusedVariables false
open Go.RowKit Go.Proofs Go.Rg

def sgn (n : Int) : Int := if 0 < n then 1 else if n < 0 then -1 else 0
def fairS (a : Sp) : Bool := fair a.1 a.2
def sideV (a b c : Sp) : Int := if fairS a && fairS b && fairS c then sgn (cr a b c) else 0
def btwV (a b p : Sp) : Bool := decide (min a.1 b.1 ≤ p.1) && decide (p.1 ≤ max a.1 b.1) && decide (min a.2 b.2 ≤ p.2) && decide (p.2 ≤ max a.2 b.2)
def blkV (a b c d : Sp) : Bool := fairS a && fairS b && fairS c && fairS d &&
  (decide (sideV a b c * sideV a b d < 0) && decide (sideV c d a * sideV c d b < 0) || (sideV a b c == 0 && btwV a b c || sideV a b d == 0 && btwV a b d || sideV c d a == 0 && btwV c d a || sideV c d b == 0 && btwV c d b))
theorem sgn_bd (n : Int) : -1 ≤ sgn n ∧ sgn n ≤ 1 := by
  unfold sgn
  split
  · omega
  · split <;> omega
theorem sideV_bd (a b c : Sp) : -1 ≤ sideV a b c ∧ sideV a b c ≤ 1 := by
  unfold sideV
  split
  · exact sgn_bd _
  · omega
theorem mul_bd {x y : Int} (hx : -33554432 ≤ x ∧ x ≤ 33554432) (hy : -33554432 ≤ y ∧ y ≤ 33554432) : -1125899906842624 ≤ x * y ∧ x * y ≤ 1125899906842624 := by
  have h1 := sq_le x hx.1 hx.2
  have h2 := sq_le y hy.1 hy.2
  have sq0 : ∀ z : Int, 0 ≤ z * z := fun z => by
    rcases Int.le_total 0 z with h | h
    · exact Int.mul_nonneg h h
    · exact Int.mul_nonneg_of_nonpos_of_nonpos h h
  have h3 := sq0 (x + y)
  have h4 := sq0 (x - y)
  have e3 : (x + y) * (x + y) = x * x + 2 * (x * y) + y * y := by grind
  have e4 : (x - y) * (x - y) = x * x - 2 * (x * y) + y * y := by grind
  omega
theorem cr_wrap {a b c : Sp} (ha : fairS a = true) (hb : fairS b = true) (hc : fairS c = true) :
    IntKind.i64.wrap (IntKind.i64.wrap (IntKind.i64.wrap (b.1 - a.1) * IntKind.i64.wrap (c.2 - a.2)) - IntKind.i64.wrap (IntKind.i64.wrap (b.2 - a.2) * IntKind.i64.wrap (c.1 - a.1))) = cr a b c := by
  have e1 := fair_iff.1 ha
  have e2 := fair_iff.1 hb
  have e3 := fair_iff.1 hc
  have m1 := mul_bd (x := b.1 - a.1) (y := c.2 - a.2) (by omega) (by omega)
  have m2 := mul_bd (x := b.2 - a.2) (y := c.1 - a.1) (by omega) (by omega)
  rw [wrapI (b.1 - a.1) (by omega), wrapI (b.2 - a.2) (by omega), wrapI (c.1 - a.1) (by omega), wrapI (c.2 - a.2) (by omega), wrapI (_ * _) (by omega), wrapI ((b.2 - a.2) * _) (by omega), wrapI _ (by omega)]
  rfl

theorem p119 (a b c d : Int) : PD Tryz.prog 68 [.agg [.int .i64 a, .int .i64 b], .agg [.int .i64 c, .int .i64 d]] (.d (.int .i64 (IntKind.i64.wrap (IntKind.i64.wrap (a * d) - IntKind.i64.wrap (b * c))))) := by
  refine pd_of (fn := Tryz.f68) [.tmp 4] (by kernel_rfl) rfl (by kernel_rfl) (Nat.le_of_ble_eq_true rfl) (by kernel_rfl) rfl rfl ?_
  refine awp_seq ?_
  refine awpF_region ?_; intro K hK; simp only [push_cast, seval]; (try simp (disch := omega) only [wrapI]); (repeat ((with_reducible refine And.intro ?_ ?_); (focus (exact ob1)))); refine hK _ ?_; clear hK; clear K
  refine awp_seq ?_
  refine awpF_region ?_; intro K hK; simp only [push_cast, seval]; (try simp (disch := omega) only [wrapI]); (repeat ((with_reducible refine And.intro ?_ ?_); (focus (exact ob1)))); refine hK _ ?_; clear hK; clear K
  refine awp_ret ?_; (repeat (first | refine then_ret ?_ | refine inblock_ret ?_)); refine fin_of (by simp only [push_cast, seval]; first | done | rfl) ob1 ?_
  rfl
theorem p118 (n : Int) : PD Tryz.prog 67 [.int .i64 n] (.d (.int .i64 (sgn n))) := by
  refine pd_of (fn := Tryz.f67) [.tmp 2] (by kernel_rfl) rfl (by kernel_rfl) (Nat.le_of_ble_eq_true rfl) (by kernel_rfl) rfl rfl ?_
  refine awp_seq ?_
  refine awpF_region ?_; intro K hK; simp only [push_cast, seval]; (try simp (disch := omega) only [wrapI]); (repeat ((with_reducible refine And.intro ?_ ?_); (focus (exact ob1)))); refine hK _ ?_; clear hK; clear K
  refine awp_seq ?_
  refine awp_block ?_
  refine awp_seq ?_
  refine awpF_region ?_; intro K hK; simp only [push_cast, seval]; (try simp (disch := omega) only [wrapI]); (repeat ((with_reducible refine And.intro ?_ ?_); (focus (exact ob1)))); refine hK _ ?_; clear hK; clear K
  apply awp_cond; (focus (simp only [push_cast, seval]; rfl))
  · intro h1; (try simp only [decide_eq_true_eq, decide_eq_false_iff_not, Bool.not_eq_true', Bool.not_eq_false', Bool.and_eq_true, Bool.or_eq_true, Bool.not_eq_true] at h1)
    refine awp_seq ?_
    refine awpF_region ?_; intro K hK; simp only [push_cast, seval]; (try simp (disch := omega) only [wrapI]); (repeat ((with_reducible refine And.intro ?_ ?_); (focus (exact ob1)))); refine hK _ ?_; clear hK; clear K
    refine awp_ret ?_; (repeat (first | refine then_ret ?_ | refine inblock_ret ?_)); refine fin_of (by simp only [push_cast, seval]; first | done | rfl) ob1 ?_
    rw [sgn, if_pos (by simpa using h1)]
  · intro h1; (try simp only [decide_eq_true_eq, decide_eq_false_iff_not, Bool.not_eq_true', Bool.not_eq_false', Bool.and_eq_true, Bool.or_eq_true, Bool.not_eq_true] at h1)
    have h1' : ¬ 0 < n := by simpa using h1
    refine awp_seq ?_
    refine awpF_region ?_; intro K hK; simp only [push_cast, seval]; (try simp (disch := omega) only [wrapI]); (repeat ((with_reducible refine And.intro ?_ ?_); (focus (exact ob1)))); refine hK _ ?_; clear hK; clear K
    apply awp_cond; (focus (simp only [push_cast, seval]; rfl))
    · intro h2; (try simp only [decide_eq_true_eq, decide_eq_false_iff_not, Bool.not_eq_true', Bool.not_eq_false', Bool.and_eq_true, Bool.or_eq_true, Bool.not_eq_true] at h2)
      have h2' : n < 0 := by simpa using h2
      refine awp_seq ?_
      refine awpF_region ?_; intro K hK; simp only [push_cast, seval]; (try simp (disch := omega) only [wrapI]); (repeat ((with_reducible refine And.intro ?_ ?_); (focus (exact ob1)))); refine hK _ ?_; clear hK; clear K
      refine awp_ret ?_; (repeat (first | refine then_ret ?_ | refine inblock_ret ?_)); refine fin_of (by simp only [push_cast, seval]; first | done | rfl) ob1 ?_
      rw [sgn, if_neg h1', if_pos h2']
    · intro h2; (try simp only [decide_eq_true_eq, decide_eq_false_iff_not, Bool.not_eq_true', Bool.not_eq_false', Bool.and_eq_true, Bool.or_eq_true, Bool.not_eq_true] at h2)
      have h2' : ¬ n < 0 := by simpa using h2
      refine awp_skip ?_
      refine awp_seq ?_
      refine awpF_region ?_; intro K hK; simp only [push_cast, seval]; (try simp (disch := omega) only [wrapI]); (repeat ((with_reducible refine And.intro ?_ ?_); (focus (exact ob1)))); refine hK _ ?_; clear hK; clear K
      refine awp_ret ?_; (repeat (first | refine then_ret ?_ | refine inblock_ret ?_)); refine fin_of (by simp only [push_cast, seval]; first | done | rfl) ob1 ?_
      rw [sgn, if_neg h1', if_neg h2']
theorem p97 (a b c : Sp) : PD Tryz.prog 47 [.agg (encS a), .agg (encS b), .agg (encS c)] (.d (.int .i64 (sideV a b c))) := by
  have h99 := p99 [a, b, c] (by simp)
  simp only [List.map_cons, List.map_nil, encS, List.all_cons, List.all_nil, Bool.and_true] at h99 ⊢
  refine pd_of (fn := Tryz.f47) [.tmp 6] (by kernel_rfl) rfl (by kernel_rfl) (Nat.le_of_ble_eq_true rfl) (by kernel_rfl) rfl rfl ?_
  refine awp_seq ?_
  refine awpF_region ?_; intro K hK; simp only [push_cast, seval]; (try simp (disch := omega) only [wrapI]); (repeat ((with_reducible refine And.intro ?_ ?_); (focus (exact ob1)))); refine hK _ ?_; clear hK; clear K
  refine awp_seq ?_
  refine awp_seq ?_
  refine awpF_region ?_; intro K hK; simp only [push_cast, seval]
  (repeat ((with_reducible refine And.intro ?_ ?_); (focus (exact ob1))))
  refine CallK.pd (h99) ?_; simp only [push_cast, seval]; (try simp (disch := omega) only [wrapI]); (repeat ((with_reducible refine And.intro ?_ ?_); (focus (exact ob1))))
  refine hK _ ?_; clear hK; clear K
  apply awp_cond; (focus (simp only [push_cast, seval]; rfl))
  · intro hc; (try simp only [decide_eq_true_eq, decide_eq_false_iff_not, Bool.not_eq_true', Bool.not_eq_false', Bool.and_eq_true, Bool.or_eq_true, Bool.not_eq_true] at hc)
    refine awp_seq ?_
    refine awpF_region ?_; intro K hK; simp only [push_cast, seval]; (try simp (disch := omega) only [wrapI]); (repeat ((with_reducible refine And.intro ?_ ?_); (focus (exact ob1)))); refine hK _ ?_; clear hK; clear K
    refine awp_ret ?_; (repeat (first | refine then_ret ?_ | refine inblock_ret ?_)); refine fin_of (by simp only [push_cast, seval]; first | done | rfl) ob1 ?_
    have : sideV a b c = 0 := by
      unfold sideV fairS
      rw [if_neg]
      intro h
      rw [Bool.and_assoc] at h
      rw [h] at hc
      cases hc
    rw [this]
  · intro hc; (try simp only [decide_eq_true_eq, decide_eq_false_iff_not, Bool.not_eq_true', Bool.not_eq_false', Bool.and_eq_true, Bool.or_eq_true, Bool.not_eq_true] at hc)
    have hc : fairS a = true ∧ fairS b = true ∧ fairS c = true := by simpa [fairS] using hc
    refine awp_skip ?_
    refine awp_seq ?_
    refine awpF_draw [0,1,3,4,2,5,6,7,8] (by kernel_rfl) (by kernel_rfl) rfl ?_; intro K hK; simp only [push_cast, seval]
    (repeat ((with_reducible refine And.intro ?_ ?_); (focus (exact ob1))))
    refine CallK.pd (p100 _ _ _ _) ?_; simp only [push_cast, seval]; (try simp (disch := omega) only [wrapI]); (repeat ((with_reducible refine And.intro ?_ ?_); (focus (exact ob1))))
    refine CallK.pd (p100 _ _ _ _) ?_; simp only [push_cast, seval]; (repeat ((with_reducible refine And.intro ?_ ?_); (focus (exact ob1))))
    refine CallK.pd (p119 _ _ _ _) ?_; simp only [push_cast, seval]; (repeat ((with_reducible refine And.intro ?_ ?_); (focus (exact ob1))))
    rw [cr_wrap hc.1 hc.2.1 hc.2.2]
    refine CallK.pd (p118 _) ?_; simp only [push_cast, seval]; (repeat ((with_reducible refine And.intro ?_ ?_); (focus (exact ob1))))
    refine hK _ ?_; clear hK; clear K
    refine awp_ret ?_; (repeat (first | refine then_ret ?_ | refine inblock_ret ?_)); refine fin_of (by simp only [push_cast, seval]; first | done | rfl) ob1 ?_
    rw [sideV, hc.1, hc.2.1, hc.2.2]
    rfl
theorem p117 (a b p : Sp) : PD Tryz.prog 66 [.agg (encS a), .agg (encS b), .agg (encS p)] (.d (.bool (btwV a b p))) := by
  simp only [encS]
  refine pd_of (fn := Tryz.f66) [.tmp 6] (by kernel_rfl) rfl (by kernel_rfl) (Nat.le_of_ble_eq_true rfl) (by kernel_rfl) rfl rfl ?_
  refine awp_seq ?_
  refine awpF_region ?_; intro K hK; simp only [push_cast, seval]; (try simp (disch := omega) only [wrapI]); (repeat ((with_reducible refine And.intro ?_ ?_); (focus (exact ob1)))); refine hK _ ?_; clear hK; clear K
  refine awp_seq ?_
  refine awpF_region ?_; intro K hK; simp only [push_cast, seval]; (try simp (disch := omega) only [wrapI]); (repeat ((with_reducible refine And.intro ?_ ?_); (focus (exact ob1)))); refine hK _ ?_; clear hK; clear K
  refine awp_ret ?_; (repeat (first | refine then_ret ?_ | refine inblock_ret ?_)); refine fin_of (by simp only [push_cast, seval]; first | done | rfl) ob1 ?_
  simp only [bif_and, btwV]
end Go.Aw
