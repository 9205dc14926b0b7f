/-
  Contracts of Within on both sides, and of the reference's Near. Conditions: none (what is not valid is refused).
-/
import Derived.Test.YtecindhbaekncaaPcC
import Derived.Test.YtecindhbaekncaaPcD
namespace Go.Aw
set_option linter.unusedSimpArgs false
set_option linter.unusedVariables false
open Go.RowKit Go.Proofs

abbrev Ar := Int × Int × Int × Int
def encA (a : Ar) : List D := [.int .i64 a.1, .int .i64 a.2.1, .int .i64 a.2.2.1, .int .i64 a.2.2.2]
def inA (a : Ar) (p : Pt) : Bool := decide (p.1 ≥ a.1) && decide (p.1 ≤ a.2.2.1) && decide (p.2.1 ≥ a.2.1) && decide (p.2.1 ≤ a.2.2.2)
def withinL (ps : List Pt) (a : Ar) : List Nat := if check ps = 0 then yes ps (inA a) ps.length else []
theorem p75 (p : Pt) (a : Ar) : PD Try.prog 75 [.agg (encP p), .cp (encA a) 0] (.d (.bool (inA a p))) := by
  simp only [encP, encA]
  refine pd_of (fn := Try.f75) [.tmp 3] (by kernel_rfl) rfl (by kernel_rfl) (Nat.le_of_ble_eq_true rfl) (by kernel_rfl) rfl rfl ?_
  refine awp_seq ?_
  refine awpF_region ?_; intro K hK; simp only [push_cast, seval]; (try simp (disch := omega) only [wrapI]); (repeat ((with_reducible refine And.intro ?_ ?_); (focus (exact ob1)))); refine hK _ ?_; clear hK; clear K
  refine awp_seq ?_
  refine awpF_region ?_; intro K hK; simp only [push_cast, seval]; (try simp (disch := omega) only [wrapI]); (repeat ((with_reducible refine And.intro ?_ ?_); (focus (exact ob1)))); refine hK _ ?_; clear hK; clear K
  refine awp_ret ?_; (repeat (first | refine then_ret ?_ | refine inblock_ret ?_)); refine fin_of (by simp only [push_cast, seval]; first | done | rfl) ob1 ?_
  simp only [inA, bif_and]
theorem p34 (ps : List Pt) (a : Ar) : PD Try.prog 34 [.sl (ps.map encP), .agg (encA a)] (ofD (.sl ((withinL ps a).map encN))) := by
  have h25 := p25 ps
  have h75 := fun p => p75 p a
  simp only [encA] at h75 ⊢
  refine pdd_of (fn := Try.f34) [.tmp 4] (by kernel_rfl) rfl (by kernel_rfl) (Nat.le_of_ble_eq_true rfl) (by kernel_rfl) rfl ?_
  refine awp_seq ?_
  refine awpF_region ?_; intro K hK; simp only [push_cast, seval]; (try simp (disch := omega) only [wrapI]); (repeat ((with_reducible refine And.intro ?_ ?_); (focus (exact ob1)))); refine hK _ ?_; clear hK; clear K
  refine awp_seq ?_
  refine awp_seq ?_
  refine awpF_region ?_; intro K hK; simp only [push_cast, seval]
  (repeat ((with_reducible refine And.intro ?_ ?_); (focus (exact ob1))))
  refine CallK.pd (h25) ?_; simp only [push_cast, seval]; (try simp (disch := omega) only [wrapI]); (repeat ((with_reducible refine And.intro ?_ ?_); (focus (exact ob1))))
  refine hK _ ?_; clear hK; clear K
  apply awp_cond; (focus (simp only [push_cast, seval]; rfl))
  · intro h1; (try simp only [decide_eq_true_eq, decide_eq_false_iff_not, Bool.not_eq_true', Bool.not_eq_false', Bool.and_eq_true, Bool.or_eq_true, Bool.not_eq_true] at h1)
    have hc : ¬ check ps = 0 := by simpa using h1
    refine awp_seq ?_
    refine awpF_region ?_; intro K hK; simp only [push_cast, seval]; (try simp (disch := omega) only [wrapI]); (repeat ((with_reducible refine And.intro ?_ ?_); (focus (exact ob1)))); refine hK _ ?_; clear hK; clear K
    refine awp_ret ?_; (repeat (first | refine then_ret ?_ | refine inblock_ret ?_)); refine fin_of (by simp only [push_cast, seval]; first | done | rfl) ob1 ?_
    rw [withinL, if_neg hc]
    exact .nil
  intro h1; (try simp only [decide_eq_true_eq, decide_eq_false_iff_not, Bool.not_eq_true', Bool.not_eq_false', Bool.and_eq_true, Bool.or_eq_true, Bool.not_eq_true] at h1)
  have hc : check ps = 0 := by simpa using h1
  have hn := check_len hc
  have h74 := p74 ps 75 [.cp [.int .i64 a.1, .int .i64 a.2.1, .int .i64 a.2.2.1, .int .i64 a.2.2.2] 0] (inA a) (by omega) (fun i p _ => h75 p)
  rw [withinL, if_pos hc]
  refine awp_skip ?_
  refine awp_seq ?_
  refine awpF_region ?_; intro K hK; simp only [push_cast, seval]
  (repeat ((with_reducible refine And.intro ?_ ?_); (focus (exact ob1))))
  refine CallK.pd (h74) ?_; simp only [push_cast, seval]; (try simp (disch := omega) only [wrapI]); (repeat ((with_reducible refine And.intro ?_ ?_); (focus (exact ob1))))
  refine hK _ ?_; clear hK; clear K
  refine awp_ret ?_; (repeat (first | refine then_ret ?_ | refine inblock_ret ?_)); refine fin_of (by simp only [push_cast, seval]; first | done | rfl) ob1 ?_
  exact .d _
theorem p35 (ps : List Pt) (a : Ar) : PD Try.prog 35 [.sl (ps.map encP), .agg (encA a)] (ofD (.sl ((withinL ps a).map encN))) := by
  have h26 := p26 ps
  simp only [encA]
  refine pdd_of (fn := Try.f35) [.tmp 4] (by kernel_rfl) rfl (by kernel_rfl) (Nat.le_of_ble_eq_true rfl) (by kernel_rfl) rfl ?_
  refine awp_seq ?_
  refine awpF_region ?_; intro K hK; simp only [push_cast, seval]; (try simp (disch := omega) only [wrapI]); (repeat ((with_reducible refine And.intro ?_ ?_); (focus (exact ob1)))); refine hK _ ?_; clear hK; clear K
  refine awp_seq ?_
  refine awp_seq ?_
  refine awpF_region ?_; intro K hK; simp only [push_cast, seval]
  (repeat ((with_reducible refine And.intro ?_ ?_); (focus (exact ob1))))
  refine CallK.pd (h26) ?_; simp only [push_cast, seval]; (try simp (disch := omega) only [wrapI]); (repeat ((with_reducible refine And.intro ?_ ?_); (focus (exact ob1))))
  refine hK _ ?_; clear hK; clear K
  apply awp_cond; (focus (simp only [push_cast, seval]; rfl))
  · intro h1; (try simp only [decide_eq_true_eq, decide_eq_false_iff_not, Bool.not_eq_true', Bool.not_eq_false', Bool.and_eq_true, Bool.or_eq_true, Bool.not_eq_true] at h1)
    have hc : ¬ check ps = 0 := by simpa using h1
    refine awp_seq ?_
    refine awpF_region ?_; intro K hK; simp only [push_cast, seval]; (try simp (disch := omega) only [wrapI]); (repeat ((with_reducible refine And.intro ?_ ?_); (focus (exact ob1)))); refine hK _ ?_; clear hK; clear K
    refine awp_ret ?_; (repeat (first | refine then_ret ?_ | refine inblock_ret ?_)); refine fin_of (by simp only [push_cast, seval]; first | done | rfl) ob1 ?_
    rw [withinL, if_neg hc]
    exact .nil
  intro h1; (try simp only [decide_eq_true_eq, decide_eq_false_iff_not, Bool.not_eq_true', Bool.not_eq_false', Bool.and_eq_true, Bool.or_eq_true, Bool.not_eq_true] at h1)
  have hc : check ps = 0 := by simpa using h1
  have hn := check_len hc
  rw [withinL, if_pos hc]
  have hq : ∀ row, row ∈ ps.map encP → row.length = 3 := fun row hr => by obtain ⟨_, _, rfl⟩ := List.mem_map.1 hr; rfl
  refine awp_skip ?_
  refine awp_seq ?_
  refine awpF_region ?_; intro K hK; simp only [push_cast, seval]; (try simp (disch := omega) only [wrapI]); (repeat ((with_reducible refine And.intro ?_ ?_); (focus (exact ob1)))); refine hK _ ?_; clear hK; clear K
  refine awp_virt 5 1 rfl ?_
  simp only [push_cast, seval]
  refine awp_seq ?_
  refine awp_seq ?_
  refine awpF_region ?_; intro K hK; simp only [push_cast, seval]; (try simp (disch := omega) only [wrapI]); (repeat ((with_reducible refine And.intro ?_ ?_); (focus (exact ob1)))); refine hK _ ?_; clear hK; clear K
  refine awp_block ?_
  refine awp_loopP (st := fun (x : Nat) => ⟨[(0, .d (.sl (ps.map encP))), (3, .ptr 0 0 0), (5, .ref 1 0 (yes ps (inA a) x).length), (6, .d (.int .i64 x))], [.cells [.d (.int .i64 a.1), .d (.int .i64 a.2.1), .d (.int .i64 a.2.2.1), .d (.int .i64 a.2.2.2)], .data 1 ((yes ps (inA a) x).map encN)]⟩)
    (inv := fun x => x ≤ ps.length) (μ := fun x => ps.length - x) (x0 := 0) (r0 := [0, 1]) ?_ ?_ ?_
  · exact Nat.zero_le _
  · rw [show yes ps (inA a) 0 = [] from rfl]
    exact ⟨by simp, by simp, by simp [push_cast, seval], by simp [push_cast, seval], by simp [push_cast, seval], by simp [push_cast, seval]⟩
  intro i hi
  have hyl := yes_len ps (inA a) i
  refine awp_seq ?_
  refine awp_seq ?_
  refine awpF_region ?_; intro K hK; simp only [push_cast, seval]; (try simp (disch := omega) only [wrapI]); (repeat ((with_reducible refine And.intro ?_ ?_); (focus (exact ob1)))); refine hK _ ?_; clear hK; clear K
  apply awp_cond; (focus (simp only [push_cast, seval]; rfl))
  · intro h2; (try simp only [decide_eq_true_eq, decide_eq_false_iff_not, Bool.not_eq_true', Bool.not_eq_false', Bool.and_eq_true, Bool.or_eq_true, Bool.not_eq_true] at h2)
    have hlt : i < ps.length := by omega
    obtain ⟨p, hp⟩ : ∃ p, ps[i]? = some p := ⟨_, List.getElem?_eq_getElem hlt⟩
    have hys := yes_succ (is := inA a) hp
    have htk : ((yes ps (inA a) i).map encN).take (yes ps (inA a) i).length = (yes ps (inA a) i).map encN := List.take_of_length_le (by simp)
    have hpl : (yes ps (inA a) i).length ≤ 1000 := by omega
    refine awp_skip ?_
    refine awp_seq ?_
    refine awp_block ?_
    refine awp_seq ?_
    refine awpF_draw [0,1,2,3,4,5,6,7,8,9,10,11,12,13,14,15,16,17,18,19,20,21,22,23,24,25,26,27,28,29,30,31,32,33,34,35,36,37] (by kernel_rfl) (by kernel_rfl) rfl ?_; intro K hK; simp only [push_cast, seval, hp, encP]
    refine ⟨by omega, by omega, hq, fun g => ⟨g, g, by omega, by omega, hq⟩, fun g => ⟨g, g, by omega, by omega, hq⟩, fun g => ⟨g, g, by omega, by omega, hq⟩, ?_⟩
    refine hK _ ?_; clear hK; clear K
    simp only [bif_and]
    apply awp_cond; (focus (simp only [push_cast, seval]; rfl))
    · intro h3; (try simp only [decide_eq_true_eq, decide_eq_false_iff_not, Bool.not_eq_true', Bool.not_eq_false', Bool.and_eq_true, Bool.or_eq_true, Bool.not_eq_true] at h3)
      have h3' : inA a p = true := by
        simp only [inA, Bool.and_eq_true, decide_eq_true_eq]
        exact h3
      rw [if_pos h3'] at hys
      refine awpF_region ?_; intro K hK; simp only [push_cast, seval, htk]
      (repeat ((with_reducible refine And.intro ?_ ?_); (focus (exact ob1))))
      refine hK _ ?_; clear hK; clear K
      refine inblock_norm ?_
      refine awpF_region ?_; intro K hK; simp only [push_cast, seval]; (try simp (disch := omega) only [wrapI]); (repeat ((with_reducible refine And.intro ?_ ?_); (focus (exact ob1)))); refine hK _ ?_; clear hK; clear K
      refine round_endG (i + 1) [0, 1] ⟨by omega, hlt, ?_⟩
      rw [hys, List.map_append, List.length_append]
      simp only [List.map_cons, List.map_nil, encN]
      exact ⟨by simp, by simp, by simp [push_cast, seval], by simp [push_cast, seval], by simp [push_cast, seval], by simp [push_cast, seval]⟩
    · intro h3; (try simp only [decide_eq_true_eq, decide_eq_false_iff_not, Bool.not_eq_true', Bool.not_eq_false', Bool.and_eq_true, Bool.or_eq_true, Bool.not_eq_true] at h3)
      have h3' : ¬ inA a p = true := fun h4 => by
        rw [inA] at h4
        rw [h4] at h3
        cases h3
      rw [if_neg h3'] at hys
      refine awp_skip ?_
      refine inblock_norm ?_
      refine awpF_region ?_; intro K hK; simp only [push_cast, seval]; (try simp (disch := omega) only [wrapI]); (repeat ((with_reducible refine And.intro ?_ ?_); (focus (exact ob1)))); refine hK _ ?_; clear hK; clear K
      refine round_endG (i + 1) [0, 1] ⟨by omega, hlt, ?_⟩
      rw [hys]
      exact ⟨by simp, by simp, by simp [push_cast, seval], by simp [push_cast, seval], by simp [push_cast, seval], by simp [push_cast, seval]⟩
  · intro h2; (try simp only [decide_eq_true_eq, decide_eq_false_iff_not, Bool.not_eq_true', Bool.not_eq_false', Bool.and_eq_true, Bool.or_eq_true, Bool.not_eq_true] at h2)
    obtain rfl : i = ps.length := by omega
    refine awp_exit ?_; (repeat (first | refine then_exit ?_ | refine inblock_other (by decide) ?_)); refine inblock_same ?_
    refine awp_seq ?_
    refine awpF_region ?_; intro K hK; simp only [push_cast, seval]; (try simp (disch := omega) only [wrapI]); (repeat ((with_reducible refine And.intro ?_ ?_); (focus (exact ob1)))); refine hK _ ?_; clear hK; clear K
    refine awp_ret ?_; (repeat (first | refine then_ret ?_ | refine inblock_ret ?_)); refine fin_of (by simp only [push_cast, seval]; first | done | rfl) ob1 ?_
    exact deep_ints rfl

theorem p37 (ps : List Pt) (x y reach : Int) : PD Try.prog 37 [.sl (ps.map encP), .agg [.int .i64 x, .int .i64 y], .int .i64 reach] (ofD (.sl ((nearL ps x y reach).map encN))) := by
  have h26 := p26 ps
  refine pdd_of (fn := Try.f37) [.tmp 6] (by kernel_rfl) rfl (by kernel_rfl) (Nat.le_of_ble_eq_true rfl) (by kernel_rfl) rfl ?_
  refine awp_seq ?_
  refine awpF_region ?_; intro K hK; simp only [push_cast, seval]; (try simp (disch := omega) only [wrapI]); (repeat ((with_reducible refine And.intro ?_ ?_); (focus (exact ob1)))); refine hK _ ?_; clear hK; clear K
  refine awp_seq ?_
  refine awp_seq ?_
  refine awpF_region ?_; intro K hK; simp only [push_cast, seval]
  (repeat ((with_reducible refine And.intro ?_ ?_); (focus (exact ob1))))
  refine CallK.pd (h26) ?_; simp only [push_cast, seval]; (try simp (disch := omega) only [wrapI]); (repeat ((with_reducible refine And.intro ?_ ?_); (focus (exact ob1))))
  refine hK _ ?_; clear hK; clear K
  apply awp_cond; (focus (simp only [push_cast, seval]; rfl))
  · intro h1; (try simp only [decide_eq_true_eq, decide_eq_false_iff_not, Bool.not_eq_true', Bool.not_eq_false', Bool.and_eq_true, Bool.or_eq_true, Bool.not_eq_true] at h1)
    have hc : ¬ check ps = 0 := by simpa using h1
    refine awp_seq ?_
    refine awpF_region ?_; intro K hK; simp only [push_cast, seval]; (try simp (disch := omega) only [wrapI]); (repeat ((with_reducible refine And.intro ?_ ?_); (focus (exact ob1)))); refine hK _ ?_; clear hK; clear K
    refine awp_ret ?_; (repeat (first | refine then_ret ?_ | refine inblock_ret ?_)); refine fin_of (by simp only [push_cast, seval]; first | done | rfl) ob1 ?_
    have : nearOk ps x y reach = false := by simp [nearOk, hc]
    rw [nearL, this]
    exact .nil
  intro h1; (try simp only [decide_eq_true_eq, decide_eq_false_iff_not, Bool.not_eq_true', Bool.not_eq_false', Bool.and_eq_true, Bool.or_eq_true, Bool.not_eq_true] at h1)
  have hc : check ps = 0 := by simpa using h1
  have hn := check_len hc
  have hnl : nearL ps x y reach = yes ps (fun p => sees (x, y) (ptS p) reach) ps.length := by
    have key : ∀ (i : Nat) (p : Pt), ps[i]? = some p → sees (x, y) (ptS p) reach = (nearOk ps x y reach && decide (dist2 (x, y) (ptS p) ≤ reach * reach)) := fun i p hp => by
      have hf : fair (ptS p).1 (ptS p).2 = true := check_fair hc hp
      simp only [sees, nearOk, hc, hf, decide_true, Bool.and_true, Bool.true_and]
    unfold nearL
    split
    · rename_i hk
      unfold yes
      refine List.filter_congr fun i hi => ?_
      have hlt := List.mem_range.1 hi
      rw [List.getElem?_eq_getElem hlt]
      dsimp only
      rw [key i _ (List.getElem?_eq_getElem hlt), hk, Bool.true_and]
    · rename_i hk
      have hk : nearOk ps x y reach = false := by simpa using hk
      unfold yes
      symm
      rw [List.filter_eq_nil_iff]
      intro i hi
      have hlt := List.mem_range.1 hi
      rw [List.getElem?_eq_getElem hlt]
      dsimp only
      rw [key i _ (List.getElem?_eq_getElem hlt), hk]
      simp
  rw [hnl]
  have hq : ∀ row, row ∈ ps.map encP → row.length = 3 := fun row hr => by obtain ⟨_, _, rfl⟩ := List.mem_map.1 hr; rfl
  generalize hF : (fun p : Pt => sees (x, y) (ptS p) reach) = G
  refine awp_skip ?_
  refine awp_seq ?_
  refine awpF_region ?_; intro K hK; simp only [push_cast, seval]; (try simp (disch := omega) only [wrapI]); (repeat ((with_reducible refine And.intro ?_ ?_); (focus (exact ob1)))); refine hK _ ?_; clear hK; clear K
  refine awp_virt 7 1 rfl ?_
  simp only [push_cast, seval]
  refine awp_seq ?_
  refine awp_seq ?_
  refine awpF_region ?_; intro K hK; simp only [push_cast, seval]; (try simp (disch := omega) only [wrapI]); (repeat ((with_reducible refine And.intro ?_ ?_); (focus (exact ob1)))); refine hK _ ?_; clear hK; clear K
  refine awp_block ?_
  refine awp_loopP (st := fun (k : Nat) => ⟨[(0, .d (.sl (ps.map encP))), (2, .d (.int .i64 reach)), (4, .ptr 0 0 0), (7, .ref 1 0 (yes ps G k).length), (8, .d (.int .i64 k))], [.cells [.d (.int .i64 x), .d (.int .i64 y)], .data 1 ((yes ps G k).map encN)]⟩)
    (inv := fun x => x ≤ ps.length) (μ := fun x => ps.length - x) (x0 := 0) (r0 := [0, 1]) ?_ ?_ ?_
  · exact Nat.zero_le _
  · rw [show yes ps G 0 = [] from rfl]
    exact ⟨by simp, by simp, by simp [push_cast, seval], by simp [push_cast, seval], by simp [push_cast, seval], by simp [push_cast, seval]⟩
  intro i hi
  have hyl := yes_len ps G i
  refine awp_seq ?_
  refine awp_seq ?_
  refine awpF_region ?_; intro K hK; simp only [push_cast, seval]; (try simp (disch := omega) only [wrapI]); (repeat ((with_reducible refine And.intro ?_ ?_); (focus (exact ob1)))); refine hK _ ?_; clear hK; clear K
  apply awp_cond; (focus (simp only [push_cast, seval]; rfl))
  · intro h2; (try simp only [decide_eq_true_eq, decide_eq_false_iff_not, Bool.not_eq_true', Bool.not_eq_false', Bool.and_eq_true, Bool.or_eq_true, Bool.not_eq_true] at h2)
    have hlt : i < ps.length := by omega
    obtain ⟨p, hp⟩ : ∃ p, ps[i]? = some p := ⟨_, List.getElem?_eq_getElem hlt⟩
    have hys := yes_succ (is := G) hp
    have hGp : G p = sees (x, y) (ptS p) reach := by rw [← hF]
    have h60 := p60 x y p.1 p.2.1 reach
    rw [show sees (x, y) (p.1, p.2.1) reach = G p from hGp.symm] at h60
    have htk : ((yes ps G i).map encN).take (yes ps G i).length = (yes ps G i).map encN := List.take_of_length_le (by simp)
    have hpl : (yes ps G i).length ≤ 1000 := by omega
    refine awp_skip ?_
    refine awp_seq ?_
    refine awp_block ?_
    refine awp_seq ?_
    refine awpF_draw [0,1,2,3,4,6,5,7] (by kernel_rfl) (by kernel_rfl) rfl ?_; intro K hK; simp only [push_cast, seval, hp, encP]
    refine ⟨by omega, by omega, hq, ?_⟩
    refine CallK.pd (p61 _ _ _) ?_; simp only [push_cast, seval]; (try simp (disch := omega) only [wrapI]); (repeat ((with_reducible refine And.intro ?_ ?_); (focus (exact ob1))))
    refine CallK.pd (h60) ?_; simp only [push_cast, seval]; (try simp (disch := omega) only [wrapI]); (repeat ((with_reducible refine And.intro ?_ ?_); (focus (exact ob1))))
    refine hK _ ?_; clear hK; clear K
    apply awp_cond; (focus (simp only [push_cast, seval]; rfl))
    · intro h3; (try simp only [decide_eq_true_eq, decide_eq_false_iff_not, Bool.not_eq_true', Bool.not_eq_false', Bool.and_eq_true, Bool.or_eq_true, Bool.not_eq_true] at h3)
      have h3' : G p = true := h3
      rw [if_pos h3'] at hys
      refine awpF_region ?_; intro K hK; simp only [push_cast, seval, htk]
      (repeat ((with_reducible refine And.intro ?_ ?_); (focus (exact ob1))))
      refine hK _ ?_; clear hK; clear K
      refine inblock_norm ?_
      refine awpF_region ?_; intro K hK; simp only [push_cast, seval]; (try simp (disch := omega) only [wrapI]); (repeat ((with_reducible refine And.intro ?_ ?_); (focus (exact ob1)))); refine hK _ ?_; clear hK; clear K
      refine round_endG (i + 1) [0, 1] ⟨by omega, hlt, ?_⟩
      rw [hys, List.map_append, List.length_append]
      simp only [List.map_cons, List.map_nil, encN]
      exact ⟨by simp, by simp, by simp [push_cast, seval], by simp [push_cast, seval], by simp [push_cast, seval], by simp [push_cast, seval]⟩
    · intro h3; (try simp only [decide_eq_true_eq, decide_eq_false_iff_not, Bool.not_eq_true', Bool.not_eq_false', Bool.and_eq_true, Bool.or_eq_true, Bool.not_eq_true] at h3)
      have h3' : ¬ G p = true := by rw [h3]; simp
      rw [if_neg h3'] at hys
      refine awp_skip ?_
      refine inblock_norm ?_
      refine awpF_region ?_; intro K hK; simp only [push_cast, seval]; (try simp (disch := omega) only [wrapI]); (repeat ((with_reducible refine And.intro ?_ ?_); (focus (exact ob1)))); refine hK _ ?_; clear hK; clear K
      refine round_endG (i + 1) [0, 1] ⟨by omega, hlt, ?_⟩
      rw [hys]
      exact ⟨by simp, by simp, by simp [push_cast, seval], by simp [push_cast, seval], by simp [push_cast, seval], by simp [push_cast, seval]⟩
  · intro h2; (try simp only [decide_eq_true_eq, decide_eq_false_iff_not, Bool.not_eq_true', Bool.not_eq_false', Bool.and_eq_true, Bool.or_eq_true, Bool.not_eq_true] at h2)
    obtain rfl : i = ps.length := by omega
    refine awp_exit ?_; (repeat (first | refine then_exit ?_ | refine inblock_other (by decide) ?_)); refine inblock_same ?_
    refine awp_seq ?_
    refine awpF_region ?_; intro K hK; simp only [push_cast, seval]; (try simp (disch := omega) only [wrapI]); (repeat ((with_reducible refine And.intro ?_ ?_); (focus (exact ob1)))); refine hK _ ?_; clear hK; clear K
    refine awp_ret ?_; (repeat (first | refine then_ret ?_ | refine inblock_ret ?_)); refine fin_of (by simp only [push_cast, seval]; first | done | rfl) ob1 ?_
    exact deep_ints rfl
end Go.Aw
