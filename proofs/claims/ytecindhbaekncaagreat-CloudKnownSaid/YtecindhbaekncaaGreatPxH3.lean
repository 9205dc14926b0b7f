/-
  Contracts of Blocks, on both sides. Conditions: none (spots that are not valid are refused).
-/
import Derived.Test.YtecindhbaekncaaGreatPxH2
namespace Go.Aw
set_option linter.unusedSimpArgs false
set_option linter.unusedVariables false
open Go.RowKit Go.Proofs Go.Rg

theorem mul_sgn {p q : Int} (hp : -1 ≤ p ∧ p ≤ 1) (hq : -1 ≤ q ∧ q ≤ 1) : -1 ≤ p * q ∧ p * q ≤ 1 := by
  have h1 : p = -1 ∨ p = 0 ∨ p = 1 := by omega
  rcases h1 with rfl | rfl | rfl <;> omega
theorem p96 (a b c d : Sp) : PD Tryz.prog 46 [.agg (encS a), .agg (encS b), .agg (encS c), .agg (encS d)] (.d (.bool (blkV a b c d))) := by
  have h99 := p99 [a, b, c, d] (by simp)
  have h1 := p97 a b c
  have h2 := p97 a b d
  have h3 := p97 c d a
  have h4 := p97 c d b
  have g1 := p117 a b c
  have g2 := p117 a b d
  have g3 := p117 c d a
  have g4 := p117 c d b
  have b1 := mul_sgn (sideV_bd a b c) (sideV_bd a b d)
  have b2 := mul_sgn (sideV_bd c d a) (sideV_bd c d b)
  have hv : blkV a b c d = (fairS a && fairS b && fairS c && fairS d &&
    (decide (sideV a b c * sideV a b d < 0) && decide (sideV c d a * sideV c d b < 0) || (sideV a b c == 0 && btwV a b c || sideV a b d == 0 && btwV a b d || sideV c d a == 0 && btwV c d a || sideV c d b == 0 && btwV c d b))) := rfl
  rw [hv]
  clear hv
  simp only [List.map_cons, List.map_nil, encS, List.all_cons, List.all_nil, Bool.and_true, fairS] at h99 h1 h2 h3 h4 g1 g2 g3 g4 ⊢
  generalize sideV a b c = s1 at *
  generalize sideV a b d = s2 at *
  generalize sideV c d a = s3 at *
  generalize sideV c d b = s4 at *
  have w1 : IntKind.i64.wrap (s1 * s2) = s1 * s2 := wrapI _ (by omega)
  have w2 : IntKind.i64.wrap (s3 * s4) = s3 * s4 := wrapI _ (by omega)
  refine pd_of (fn := Tryz.f46) [.tmp 8] (by kernel_rfl) rfl (by kernel_rfl) (Nat.le_of_ble_eq_true rfl) (by kernel_rfl) rfl rfl ?_
  refine awp_seq ?_
  refine awpF_region ?_; intro K hK; simp only [push_cast, seval]; (try simp (disch := omega) only [wrapI]); (repeat ((with_reducible refine And.intro ?_ ?_); (focus (exact ob1)))); refine hK _ ?_; clear hK; clear K
  refine awp_seq ?_
  refine awp_seq ?_
  refine awpF_region ?_; intro K hK; simp only [push_cast, seval]
  (repeat ((with_reducible refine And.intro ?_ ?_); (focus (exact ob1))))
  refine CallK.pd (h99) ?_; simp only [push_cast, seval]; (try simp (disch := omega) only [wrapI]); (repeat ((with_reducible refine And.intro ?_ ?_); (focus (exact ob1))))
  refine hK _ ?_; clear hK; clear K
  apply awp_cond; (focus (simp only [push_cast, seval]; rfl))
  · intro hc; (try simp only [decide_eq_true_eq, decide_eq_false_iff_not, Bool.not_eq_true', Bool.not_eq_false', Bool.and_eq_true, Bool.or_eq_true, Bool.not_eq_true] at hc)
    refine awp_seq ?_
    refine awpF_region ?_; intro K hK; simp only [push_cast, seval]; (try simp (disch := omega) only [wrapI]); (repeat ((with_reducible refine And.intro ?_ ?_); (focus (exact ob1)))); refine hK _ ?_; clear hK; clear K
    refine awp_ret ?_; (repeat (first | refine then_ret ?_ | refine inblock_ret ?_)); refine fin_of (by simp only [push_cast, seval]; first | done | rfl) ob1 ?_
    have hc : (fair a.1 a.2 && (fair b.1 b.2 && (fair c.1 c.2 && fair d.1 d.2))) = false := by simpa using hc
    simp only [Bool.and_assoc] at hc ⊢
    rw [← Bool.and_assoc (fair c.1 c.2), ← Bool.and_assoc (fair b.1 b.2), ← Bool.and_assoc (fair a.1 a.2), hc]
    rfl
  · intro hc; (try simp only [decide_eq_true_eq, decide_eq_false_iff_not, Bool.not_eq_true', Bool.not_eq_false', Bool.and_eq_true, Bool.or_eq_true, Bool.not_eq_true] at hc)
    have hc : (fair a.1 a.2 = true ∧ fair b.1 b.2 = true ∧ fair c.1 c.2 = true ∧ fair d.1 d.2 = true) := by simpa using hc
    rw [hc.1, hc.2.1, hc.2.2.1, hc.2.2.2]
    refine awp_skip ?_
    refine awp_seq ?_
    refine awpF_draw [0,1,2,4,5,6,8,9,10,12,13,14,3,7,11,15,16,17,18,19] (by kernel_rfl) (by kernel_rfl) rfl ?_; intro K hK; simp only [push_cast, seval]
    (repeat ((with_reducible refine And.intro ?_ ?_); (focus (exact ob1))))
    refine CallK.pd (h1) ?_; simp only [push_cast, seval]; (try simp (disch := omega) only [wrapI]); (repeat ((with_reducible refine And.intro ?_ ?_); (focus (exact ob1))))
    refine CallK.pd h2 ?_; simp only [push_cast, seval]; (repeat ((with_reducible refine And.intro ?_ ?_); (focus (exact ob1))))
    refine CallK.pd h3 ?_; simp only [push_cast, seval]; (repeat ((with_reducible refine And.intro ?_ ?_); (focus (exact ob1))))
    refine CallK.pd h4 ?_; simp only [push_cast, seval]; (repeat ((with_reducible refine And.intro ?_ ?_); (focus (exact ob1))))
    refine hK _ ?_; clear hK; clear K
    refine awp_seq ?_
    refine awp_seq ?_
    refine awpF_region ?_; intro K hK; simp only [push_cast, seval, w1, w2]
    (repeat ((with_reducible refine And.intro ?_ ?_); (focus (exact ob1))))
    refine hK _ ?_; clear hK; clear K
    apply awp_cond; (focus (simp only [push_cast, seval]; rfl))
    · intro h5; (try simp only [decide_eq_true_eq, decide_eq_false_iff_not, Bool.not_eq_true', Bool.not_eq_false', Bool.and_eq_true, Bool.or_eq_true, Bool.not_eq_true] at h5)
      refine awp_seq ?_
      refine awpF_region ?_; intro K hK; simp only [push_cast, seval]; (try simp (disch := omega) only [wrapI]); (repeat ((with_reducible refine And.intro ?_ ?_); (focus (exact ob1)))); refine hK _ ?_; clear hK; clear K
      refine awp_ret ?_; (repeat (first | refine then_ret ?_ | refine inblock_ret ?_)); refine fin_of (by simp only [push_cast, seval]; first | done | rfl) ob1 ?_
      rw [bif_and] at h5
      rw [h5]
      rfl
    · intro h5; (try simp only [decide_eq_true_eq, decide_eq_false_iff_not, Bool.not_eq_true', Bool.not_eq_false', Bool.and_eq_true, Bool.or_eq_true, Bool.not_eq_true] at h5)
      rw [bif_and] at h5
      rw [h5]
      clear h5 h99 h1 h2 h3 h4 b1 b2 w1 w2
      generalize btwV a b c = t1 at *
      generalize btwV a b d = t2 at *
      generalize btwV c d a = t3 at *
      generalize btwV c d b = t4 at *
      generalize he1 : (s1 == 0) = e1
      generalize he2 : (s2 == 0) = e2
      generalize he3 : (s3 == 0) = e3
      generalize he4 : (s4 == 0) = e4
      refine awp_skip ?_
      refine awp_seq ?_
      refine awpF_region ?_; intro K hK; simp only [push_cast, seval, he1, he2, he3, he4]
      refine CallK.pg (fun _ => g1) ?_; simp only [push_cast, seval]; (try simp (disch := omega) only [wrapI]); (repeat ((with_reducible refine And.intro ?_ ?_); (focus (exact ob1))))
      refine CallK.pg (fun _ => g2) ?_; simp only [push_cast, seval]; (try simp (disch := omega) only [wrapI]); (repeat ((with_reducible refine And.intro ?_ ?_); (focus (exact ob1))))
      refine ⟨fun h => by rw [h]; rfl, ?_⟩
      refine CallK.pg (fun _ => g3) ?_; simp only [push_cast, seval]; (try simp (disch := omega) only [wrapI]); (repeat ((with_reducible refine And.intro ?_ ?_); (focus (exact ob1))))
      refine ⟨fun h => by rw [h]; rfl, ?_⟩
      refine CallK.pg (fun _ => g4) ?_; simp only [push_cast, seval]; (try simp (disch := omega) only [wrapI]); (repeat ((with_reducible refine And.intro ?_ ?_); (focus (exact ob1))))
      refine ⟨fun h => by rw [h]; rfl, ?_⟩
      refine hK _ ?_; clear hK; clear K
      refine awp_ret ?_; (repeat (first | refine then_ret ?_ | refine inblock_ret ?_)); refine fin_of (by simp only [push_cast, seval]; first | done | rfl) ob1 ?_
      simp only [he2, he3, he4, bif_and, bif_or, Bool.true_and, Bool.false_or]
end Go.Aw
