/-
  What CloudHulls answers. Conditions: none.
-/
import Derived.Test.YtecindhbaekncaaPxH9
import Derived.Test.YtecindhbaekncaaPcB
namespace Go.Aw
set_option linter.unusedSimpArgs false
set_option linter.unusedVariables false
open Go.RowKit Go.Proofs Go.Rg

theorem p49 (ps : List Pt) (H : List Sp) (hH : isHull (ps.map ptS) H) : PD Try.prog 49 [.sl (ps.map encP)] (ofD (.sl ((if check ps = 0 then H else []).map encS))) := by
  have := p49K ps
  rwa [← isHull_uniq hH (hullS (ps.map ptS))] at this

theorem p11 (ps : List Pt) (h : List Sp) (p : Sp) : PD Try.prog 11 [.sl (ps.map encP), .sl (h.map encS), .agg (encS p)] (.d (.bool true)) := by
  obtain ⟨H, hH⟩ := isHull_ex (ps.map ptS)
  have h49 := p49 ps H hH
  have h50 := p50 ps H hH
  have hHl := isHull_len hH
  have hl : (if check ps = 0 then H else []).length ≤ 2000 := by
    split
    · rename_i hc
      have := check_len hc
      rw [List.length_map] at hHl
      omega
    · exact Nat.zero_le _
  clear hHl hH
  generalize (if check ps = 0 then H else []) = R at h49 h50 hl
  simp only [encS]
  have h54 := fun l hl => p54 l p hl
  have h55 := fun l hl => p55 l p hl
  simp only [encS] at h54 h55
  refine pd_of (fn := Try.f11) [.tmp 6] (by kernel_rfl) rfl (by kernel_rfl) (Nat.le_of_ble_eq_true rfl) (by kernel_rfl) rfl rfl ?_
  refine awp_seq ?_
  refine awpF_region ?_; intro K hK; simp only [push_cast, seval]; (try simp (disch := omega) only [wrapI]); (repeat ((with_reducible refine And.intro ?_ ?_); (focus (exact ob1)))); refine hK _ ?_; clear hK; clear K
  refine awp_seq ?_
  refine awp_seq ?_
  refine awpF_region ?_; intro K hK; simp only [push_cast, seval]
  (repeat ((with_reducible refine And.intro ?_ ?_); (focus (exact ob1))))
  refine CallK.pd (p14 _ _) ?_; simp only [push_cast, seval]; (try simp (disch := omega) only [wrapI]); (repeat ((with_reducible refine And.intro ?_ ?_); (focus (exact ob1))))
  refine hK _ ?_; clear hK; clear K
  apply awp_cond; (focus (simp only [push_cast, seval]; rfl))
  · intro h1; (try simp only [decide_eq_true_eq, decide_eq_false_iff_not, Bool.not_eq_true', Bool.not_eq_false', Bool.and_eq_true, Bool.or_eq_true, Bool.not_eq_true] at h1)
    refine awp_seq ?_
    refine awpF_region ?_; intro K hK; simp only [push_cast, seval]
    (repeat ((with_reducible refine And.intro ?_ ?_); (focus (exact ob1))))
    refine CallK.pd (p15) ?_; simp only [push_cast, seval]; (try simp (disch := omega) only [wrapI]); (repeat ((with_reducible refine And.intro ?_ ?_); (focus (exact ob1))))
    refine hK _ ?_; clear hK; clear K
    refine awp_ret ?_; (repeat (first | refine then_ret ?_ | refine inblock_ret ?_)); refine fin_of (by simp only [push_cast, seval]; first | done | rfl) ob1 ?_
    rfl
  intro h1; (try simp only [decide_eq_true_eq, decide_eq_false_iff_not, Bool.not_eq_true', Bool.not_eq_false', Bool.and_eq_true, Bool.or_eq_true, Bool.not_eq_true] at h1)
  have hn : ps.length ≤ 1100 ∧ h.length ≤ 1100 := by
    rcases Nat.lt_or_ge 1100 h.length with h2 | h2
    · simp at h1
      omega
    · simp at h1
      omega
  obtain ⟨hn1, hn2⟩ := hn
  refine awp_skip ?_
  refine awp_seq ?_
  refine awpF_region ?_; intro K hK; simp only [push_cast, seval]
  (repeat ((with_reducible refine And.intro ?_ ?_); (focus (exact ob1))))
  refine CallK.pd (p16 ps (by omega)) ?_; simp only [push_cast, seval, ofD]; (repeat ((with_reducible refine And.intro ?_ ?_); (focus (exact ob1))))
  refine CallK.pd (p48 h (by omega)) ?_; simp only [push_cast, seval, ofD]; (repeat ((with_reducible refine And.intro ?_ ?_); (focus (exact ob1))))
  refine hK _ ?_; clear hK; clear K
  refine awp_seq ?_
  refine awpF_region ?_; intro K hK; simp only [push_cast, seval]
  (repeat ((with_reducible refine And.intro ?_ ?_); (focus (exact ob1))))
  refine CallK.pd h49 ?_; simp only [push_cast, seval, ofD]; (repeat ((with_reducible refine And.intro ?_ ?_); (focus (exact ob1))))
  refine CallK.pd h50 ?_; simp only [push_cast, seval, ofD]; (repeat ((with_reducible refine And.intro ?_ ?_); (focus (exact ob1))))
  refine hK _ ?_; clear hK; clear K
  refine awp_seq ?_
  refine awp_seq ?_
  refine awpF_draw [0,1,2,3,4,5,7,6,8,9,10,11,12,13,15,16,14,17,18,19,20,21,22,24,25,23,26,27,28] (by kernel_rfl) (by kernel_rfl) rfl ?_; intro K hK; simp only [push_cast, seval]
  (repeat ((with_reducible refine And.intro ?_ ?_); (focus (exact ob1))))
  refine CallK.pd (p51 R R (by omega)) ?_; simp only [push_cast, seval, decide_true, beq_self_eq_true, bne_self_eq_false, cond_true, cond_false]; (repeat ((with_reducible refine And.intro ?_ ?_); (focus (exact ob1))))
  refine CallK.pd (p52 h (by omega)) ?_; simp only [push_cast, seval, decide_true, beq_self_eq_true, bne_self_eq_false, cond_true, cond_false]; (repeat ((with_reducible refine And.intro ?_ ?_); (focus (exact ob1))))
  refine CallK.pd (p53 h (by omega)) ?_; simp only [push_cast, seval, decide_true, beq_self_eq_true, bne_self_eq_false, cond_true, cond_false]; (repeat ((with_reducible refine And.intro ?_ ?_); (focus (exact ob1))))
  refine CallK.pd (h54 h (by omega)) ?_; simp only [push_cast, seval, decide_true, beq_self_eq_true, bne_self_eq_false, cond_true, cond_false]; (repeat ((with_reducible refine And.intro ?_ ?_); (focus (exact ob1))))
  refine CallK.pd (h55 h (by omega)) ?_; simp only [push_cast, seval, decide_true, beq_self_eq_true, bne_self_eq_false, cond_true, cond_false]; (repeat ((with_reducible refine And.intro ?_ ?_); (focus (exact ob1))))
  refine CallK.pd (h54 R (by omega)) ?_; simp only [push_cast, seval, decide_true, beq_self_eq_true, bne_self_eq_false, cond_true, cond_false]; (repeat ((with_reducible refine And.intro ?_ ?_); (focus (exact ob1))))
  refine CallK.pd (h55 R (by omega)) ?_; simp only [push_cast, seval, decide_true, beq_self_eq_true, bne_self_eq_false, cond_true, cond_false]; (repeat ((with_reducible refine And.intro ?_ ?_); (focus (exact ob1))))
  refine hK _ ?_; clear hK; clear K
  apply awp_cond; (focus (simp only [push_cast, seval]; rfl))
  · intro h2; (try simp only [decide_eq_true_eq, decide_eq_false_iff_not, Bool.not_eq_true', Bool.not_eq_false', Bool.and_eq_true, Bool.or_eq_true, Bool.not_eq_true] at h2)
    cases h2
  intro h2; (try simp only [decide_eq_true_eq, decide_eq_false_iff_not, Bool.not_eq_true', Bool.not_eq_false', Bool.and_eq_true, Bool.or_eq_true, Bool.not_eq_true] at h2)
  refine awp_skip ?_
  refine awp_seq ?_
  refine awpF_region ?_; intro K hK; simp only [push_cast, seval]
  (repeat ((with_reducible refine And.intro ?_ ?_); (focus (exact ob1))))
  refine CallK.pd (p20 ps ps (by omega)) ?_; simp only [push_cast, seval, decide_true, beq_self_eq_true, bne_self_eq_false, cond_true, cond_false]; (repeat ((with_reducible refine And.intro ?_ ?_); (focus (exact ob1))))
  refine CallK.pd (p51 h h (by omega)) ?_; simp only [push_cast, seval, decide_true, beq_self_eq_true, bne_self_eq_false, cond_true, cond_false]; (repeat ((with_reducible refine And.intro ?_ ?_); (focus (exact ob1))))
  refine CallK.pd p15 ?_; simp only [push_cast, seval, decide_true, beq_self_eq_true, bne_self_eq_false, cond_true, cond_false]; (repeat ((with_reducible refine And.intro ?_ ?_); (focus (exact ob1))))
  refine hK _ ?_; clear hK; clear K
  refine awp_ret ?_; (repeat (first | refine then_ret ?_ | refine inblock_ret ?_)); refine fin_of (by simp only [push_cast, seval]; first | done | rfl) ob1 ?_
  rfl
theorem p11v (ps : List Pt) (h : List Sp) (x y : Int) : PD Try.prog 11 [.sl (ps.map encP), .sl (h.map encS), .agg [.int .i64 x, .int .i64 y]] (.d (.bool true)) := p11 ps h (x, y)
end Go.Aw
