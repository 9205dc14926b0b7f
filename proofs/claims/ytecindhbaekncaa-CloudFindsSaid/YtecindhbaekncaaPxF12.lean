/-
  What CloudFinds answers. Conditions: none.
-/
import Derived.Test.YtecindhbaekncaaPxF11
import Derived.Test.YtecindhbaekncaaPcB
namespace Go.Aw
set_option linter.unusedSimpArgs false
set_option linter.unusedVariables false
open Go.RowKit Go.Proofs

theorem withinL_len (ps : List Pt) (a : Ar) : (withinL ps a).length ≤ ps.length := by
  unfold withinL
  split
  · exact yes_len _ _ _
  · exact Nat.zero_le _
theorem nearL_len (ps : List Pt) (x y r : Int) : (nearL ps x y r).length ≤ ps.length := by
  unfold nearL
  split
  · exact yes_len _ _ _
  · exact Nat.zero_le _
theorem nearestL_len (ps : List Pt) (x y k : Int) : (nearestL ps x y k).length ≤ ps.length := by
  have h := nearestL_spec ps x y k
  unfold nearestP at h
  split at h
  · obtain ⟨L, h1, _, h2⟩ := h
    rw [h1, List.length_map, h2]
    omega
  · rw [h]
    exact Nat.zero_le _

theorem p7 (ps : List Pt) (a : Ar) (x y reach k : Int) : PD Try.prog 7 [.sl (ps.map encP), .agg (encA a), .agg [.int .i64 x, .int .i64 y], .int .i64 reach, .int .i64 k] (.d (.bool true)) := by
  have h34 := p34 ps a
  have h35 := p35 ps a
  simp only [encA] at h34 h35 ⊢
  refine pd_of (fn := Try.f7) [.tmp 10] (by kernel_rfl) rfl (by kernel_rfl) (Nat.le_of_ble_eq_true rfl) (by kernel_rfl) rfl rfl ?_
  refine awp_seq ?_
  refine awpF_region ?_; intro K hK; simp only [push_cast, seval]; (try simp (disch := omega) only [wrapI]); (repeat ((with_reducible refine And.intro ?_ ?_); (focus (exact ob1)))); refine hK _ ?_; clear hK; clear K
  refine awp_seq ?_
  refine awp_seq ?_
  refine awpF_region ?_; intro K hK; simp only [push_cast, seval]
  (repeat ((with_reducible refine And.intro ?_ ?_); (focus (exact ob1))))
  refine CallK.pd (p14 _ _) ?_; simp only [push_cast, seval]; (try simp (disch := omega) only [wrapI]); (repeat ((with_reducible refine And.intro ?_ ?_); (focus (exact ob1))))
  refine hK _ ?_; clear hK; clear K
  apply awp_cond; (focus (simp only [push_cast, seval]; rfl))
  · intro h1; (try simp only [decide_eq_true_eq, decide_eq_false_iff_not, Bool.not_eq_true', Bool.not_eq_false', Bool.and_eq_true, Bool.or_eq_true, Bool.not_eq_true] at h1)
    refine awp_seq ?_
    refine awpF_region ?_; intro K hK; simp only [push_cast, seval]
    (repeat ((with_reducible refine And.intro ?_ ?_); (focus (exact ob1))))
    refine CallK.pd (p15) ?_; simp only [push_cast, seval]; (try simp (disch := omega) only [wrapI]); (repeat ((with_reducible refine And.intro ?_ ?_); (focus (exact ob1))))
    refine hK _ ?_; clear hK; clear K
    refine awp_ret ?_; (repeat (first | refine then_ret ?_ | refine inblock_ret ?_)); refine fin_of (by simp only [push_cast, seval]; first | done | rfl) ob1 ?_
    rfl
  intro h1; (try simp only [decide_eq_true_eq, decide_eq_false_iff_not, Bool.not_eq_true', Bool.not_eq_false', Bool.and_eq_true, Bool.or_eq_true, Bool.not_eq_true] at h1)
  have hn : ps.length ≤ 1100 := by
    omega
  have hl1 := withinL_len ps a
  have hl2 := nearL_len ps x y reach
  have hl3 := nearestL_len ps x y k
  refine awp_skip ?_
  refine awp_seq ?_
  refine awpF_draw [0,1,3,4,2,5,6,7,8,9,10,12,13,14,11,15,16,17,18,19,20,21,23,24,25,22,26,27,28,29,30,31,32] (by kernel_rfl) (by kernel_rfl) rfl ?_; intro K hK; simp only [push_cast, seval]
  (repeat ((with_reducible refine And.intro ?_ ?_); (focus (exact ob1))))
  refine CallK.pd h34 ?_; simp only [push_cast, seval, ofD]; (repeat ((with_reducible refine And.intro ?_ ?_); (focus (exact ob1))))
  refine CallK.pd h35 ?_; simp only [push_cast, seval, ofD]; (repeat ((with_reducible refine And.intro ?_ ?_); (focus (exact ob1))))
  refine CallK.pd (p33n _ _ (by omega)) ?_; simp only [push_cast, seval, decide_true, beq_self_eq_true, bne_self_eq_false, cond_true, cond_false]; (repeat ((with_reducible refine And.intro ?_ ?_); (focus (exact ob1))))
  refine CallK.pd (p36 ps x y reach) ?_; simp only [push_cast, seval, ofD]; (repeat ((with_reducible refine And.intro ?_ ?_); (focus (exact ob1))))
  refine CallK.pd (p37 ps x y reach) ?_; simp only [push_cast, seval, ofD]; (repeat ((with_reducible refine And.intro ?_ ?_); (focus (exact ob1))))
  refine CallK.pd (p33n _ _ (by omega)) ?_; simp only [push_cast, seval, decide_true, beq_self_eq_true, bne_self_eq_false, cond_true, cond_false]; (repeat ((with_reducible refine And.intro ?_ ?_); (focus (exact ob1))))
  refine CallK.pd (p38 ps x y k) ?_; simp only [push_cast, seval, ofD]; (repeat ((with_reducible refine And.intro ?_ ?_); (focus (exact ob1))))
  refine CallK.pd (p39 ps x y k) ?_; simp only [push_cast, seval, ofD]; (repeat ((with_reducible refine And.intro ?_ ?_); (focus (exact ob1))))
  refine CallK.pd (p33n _ _ (by omega)) ?_; simp only [push_cast, seval, decide_true, beq_self_eq_true, bne_self_eq_false, cond_true, cond_false]; (repeat ((with_reducible refine And.intro ?_ ?_); (focus (exact ob1))))
  refine CallK.pd p15 ?_; simp only [push_cast, seval, decide_true, beq_self_eq_true, bne_self_eq_false, cond_true, cond_false]; (repeat ((with_reducible refine And.intro ?_ ?_); (focus (exact ob1))))
  refine hK _ ?_; clear hK; clear K
  refine awp_ret ?_; (repeat (first | refine then_ret ?_ | refine inblock_ret ?_)); refine fin_of (by simp only [push_cast, seval]; first | done | rfl) ob1 ?_
  rfl
theorem p7v (ps : List Pt) (a b c d x y reach k : Int) : PD Try.prog 7 [.sl (ps.map encP), .agg [.int .i64 a, .int .i64 b, .int .i64 c, .int .i64 d], .agg [.int .i64 x, .int .i64 y], .int .i64 reach, .int .i64 k] (.d (.bool true)) := p7 ps (a, b, c, d) x y reach k
end Go.Aw
