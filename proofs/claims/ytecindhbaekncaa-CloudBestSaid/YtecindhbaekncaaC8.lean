/-
  The example that each law asks, and what CloudSegments answers. Conditions: none.
-/
import Derived.Test.YtecindhbaekncaaC7
namespace Go.Aw
set_option linter.unusedSimpArgs false
set_option linter.unusedVariables false
open Go.RowKit Go.Proofs Go.Seg

/-- The segments of a cloud, told by any labels. -/
def IsSegs (ps : List Pt) (gap : Int) (gs : List (List Nat)) : Prop := ∀ f : Nat → Nat, (segErr ps gap = 0 → Lab (near ps gap) ps.length f) → gs = if segErr ps gap = 0 then groups f ps.length else []

theorem segs_ex (ps : List Pt) (gap : Int) : ∃ gs, IsSegs ps gap gs ∧ (gs = [] ∨ ∃ f, gs = groups f ps.length) := by
  by_cases h0 : segErr ps gap = 0
  · by_cases h : ∃ f, Lab (near ps gap) ps.length f
    · obtain ⟨f, hf⟩ := h
      refine ⟨groups f ps.length, fun g hg => ?_, .inr ⟨f, rfl⟩⟩
      rw [if_pos h0]
      exact groups_congr (hf.unique (hg h0) near_lt)
    · exact ⟨[], fun g hg => absurd ⟨g, hg h0⟩ h, .inl rfl⟩
  · exact ⟨[], fun g hg => by rw [if_neg h0], .inl rfl⟩

theorem groups_small {f : Nat → Nat} {n : Nat} : (groups f n).length ≤ n ∧ ∀ g, g ∈ groups f n → g.length ≤ n := by
  constructor
  · have := List.length_filter_le (fun r => f r == r) (List.range n)
    rw [List.length_range] at this
    simpa [groups] using this
  · intro g hg
    simp only [groups, List.mem_map] at hg
    obtain ⟨r, _, rfl⟩ := hg
    have := List.length_filter_le (fun k => f k == r) (List.range n)
    rwa [List.length_range] at this

theorem p17s {ps : List Pt} {gap : Int} {gs : List (List Nat)} (h : IsSegs ps gap gs) : PD Try.prog 17 [.sl (ps.map encP), .int .i64 gap] (.tup [.d (.sl (gs.map encG)), .d (.int .i64 (segErr ps gap))]) :=
  p17 ps gap (.tup [.sl (gs.map encG), .int .i64 (segErr ps gap)]) fun f hf => by
    rw [h f hf]
    split <;> rfl
theorem p18s {ps : List Pt} {gap : Int} {gs : List (List Nat)} (h : IsSegs ps gap gs) : PD Try.prog 18 [.sl (ps.map encP), .int .i64 gap] (.tup [.d (.sl (gs.map encG)), .d (.int .i64 (segErr ps gap))]) :=
  p18 ps gap (.tup [.sl (gs.map encG), .int .i64 (segErr ps gap)]) fun f hf => by
    rw [h f hf]
    split <;> rfl

def f0 (i : Nat) : Nat := [0, 0, 2, 2, 0].getD i i
def nearB (i j : Nat) : Bool := match shown[i]?, shown[j]? with
  | some p, some q => decide (dist2 (ptS p) (ptS q) ≤ 250000)
  | _, _ => false
theorem nearB_of {i j : Nat} (h : near shown 500 i j) : nearB i j = true := by
  obtain ⟨p, q, h1, h2, h3⟩ := h
  simp only [nearB, h1, h2]
  exact decide_eq_true h3
theorem near_of {i j : Nat} (h : nearB i j = true) : near shown 500 i j := by
  unfold nearB at h
  split at h
  · rename_i p q h1 h2
    exact ⟨p, q, h1, h2, of_decide_eq_true h⟩
  · cases h

theorem lab0 : Lab (near shown 500) 5 f0 := by
  refine ⟨by decide, fun i hi => ?_, fun i j hi hj hn => ?_⟩
  · match i, hi with
    | 0, _ => exact .refl 0
    | 1, _ => exact .step (.refl 1) (near_of (by decide))
    | 2, _ => exact .refl 2
    | 3, _ => exact .step (.refl 3) (near_of (by decide))
    | 4, _ => exact .step (.refl 4) (near_of (by decide))
  · have h := nearB_of hn
    have key : ∀ i, i < 5 → ∀ j, j < 5 → nearB i j = true → f0 i = f0 j := by decide
    exact key i hi j hj h

theorem segs_shown : IsSegs shown 500 [[0, 1, 4], [2, 3]] := by
  intro f hf
  have h0 : segErr shown 500 = 0 := by decide
  rw [if_pos h0]
  have h1 := groups_congr (lab0.unique (hf h0) near_lt)
  rw [show shown.length = 5 from rfl, ← h1]
  decide

theorem bnd1000 : isBnd 1000 1413 := by
  rw [isBnd, if_neg (by omega)]
  refine ⟨by omega, by decide, fun y h1 h2 => ?_⟩
  have := sq_mono h1 (show y ≤ 1412 by omega)
  have e : bndN 1000 = 1996002 := by decide
  omega

theorem near_shown : nearL shown 0 0 499 = [0] := by decide

theorem p15 : PD Try.prog 15 [] (.d (.bool true)) := by
  have h56 := p56
  have h17 : PD Try.prog 17 [.sl (shown.map encP), .int .i64 500] (.tup [.d (.sl [[.sl [[.int .i64 0], [.int .i64 1], [.int .i64 4]]], [.sl [[.int .i64 2], [.int .i64 3]]]]), .d (.int .i64 0)]) := p17s segs_shown
  have h19 : PD Try.prog 19 [.sl [[.sl [[.int .i64 0], [.int .i64 1], [.int .i64 4]]], [.sl [[.int .i64 2], [.int .i64 3]]]], .sl [[.sl [[.int .i64 0], [.int .i64 1], [.int .i64 4]]], [.sl [[.int .i64 2], [.int .i64 3]]]]] (.d (.bool true)) :=
    p19 [[0, 1, 4], [2, 3]] [[0, 1, 4], [2, 3]] (by decide) (by decide)
  have h36 : PD Try.prog 36 [.sl (shown.map encP), .agg [.int .i64 0, .int .i64 0], .int .i64 499] (.d (.sl [[.int .i64 0]])) := by
    have := p36 shown 0 0 499
    rw [near_shown] at this
    exact this
  have h33 : PD Try.prog 33 [.sl [[.int .i64 0]], .sl [[.int .i64 0]]] (.d (.bool true)) := p33n [0] [0] (by decide)
  refine pd_of (fn := Try.f15) [.tmp 0] (by kernel_rfl) rfl (by kernel_rfl) (Nat.le_of_ble_eq_true rfl) (by kernel_rfl) rfl rfl ?_
  refine awp_seq ?_
  refine awpF_region ?_; intro K hK; simp only [push_cast, seval]; (try simp (disch := omega) only [wrapI]); (repeat ((with_reducible refine And.intro ?_ ?_); (focus (first | trivial | assumption | omega | (intro _ hrow; obtain ⟨_, _, rfl⟩ := List.mem_map.1 hrow; rfl) | ((intros; repeat' apply And.intro) <;> first | trivial | assumption | omega | (intro _ hrow; obtain ⟨_, _, rfl⟩ := List.mem_map.1 hrow; rfl) | (simp_all; done) | (simp_all; omega)))))); refine hK _ ?_; clear hK; clear K
  refine awp_seq ?_
  refine awpF_region ?_; intro K hK; simp only [push_cast, seval]
  (repeat ((with_reducible refine And.intro ?_ ?_); (focus (first | trivial | assumption | omega | (intro _ hrow; obtain ⟨_, _, rfl⟩ := List.mem_map.1 hrow; rfl) | ((intros; repeat' apply And.intro) <;> first | trivial | assumption | omega | (intro _ hrow; obtain ⟨_, _, rfl⟩ := List.mem_map.1 hrow; rfl) | (simp_all; done) | (simp_all; omega))))))
  refine CallK.pd h56 ?_; simp only [push_cast, seval, ofD]
  (repeat ((with_reducible refine And.intro ?_ ?_); (focus (first | trivial | assumption | omega | (intro _ hrow; obtain ⟨_, _, rfl⟩ := List.mem_map.1 hrow; rfl) | ((intros; repeat' apply And.intro) <;> first | trivial | assumption | omega | (intro _ hrow; obtain ⟨_, _, rfl⟩ := List.mem_map.1 hrow; rfl) | (simp_all; done) | (simp_all; omega))))))
  refine CallK.pd (h17) ?_; simp only [push_cast, seval]; (try simp (disch := omega) only [wrapI]); (repeat ((with_reducible refine And.intro ?_ ?_); (focus (first | trivial | assumption | omega | (intro _ hrow; obtain ⟨_, _, rfl⟩ := List.mem_map.1 hrow; rfl) | ((intros; repeat' apply And.intro) <;> first | trivial | assumption | omega | (intro _ hrow; obtain ⟨_, _, rfl⟩ := List.mem_map.1 hrow; rfl) | (simp_all; done) | (simp_all; omega))))))
  refine hK _ ?_; clear hK; clear K
  refine awp_seq ?_
  refine awpF_region ?_; intro K hK; simp only [push_cast, seval, beq_self_eq_true, cond_true, cond_false]
  (repeat ((with_reducible refine And.intro ?_ ?_); (focus (first | trivial | assumption | omega | (intro _ hrow; obtain ⟨_, _, rfl⟩ := List.mem_map.1 hrow; rfl) | ((intros; repeat' apply And.intro) <;> first | trivial | assumption | omega | (intro _ hrow; obtain ⟨_, _, rfl⟩ := List.mem_map.1 hrow; rfl) | (simp_all; done) | (simp_all; omega))))))
  refine CallK.pd h19 ?_; simp only [push_cast, seval, beq_self_eq_true, cond_true, cond_false]; (repeat ((with_reducible refine And.intro ?_ ?_); (focus (first | trivial | assumption | omega | (intro _ hrow; obtain ⟨_, _, rfl⟩ := List.mem_map.1 hrow; rfl) | ((intros; repeat' apply And.intro) <;> first | trivial | assumption | omega | (intro _ hrow; obtain ⟨_, _, rfl⟩ := List.mem_map.1 hrow; rfl) | (simp_all; done) | (simp_all; omega))))))
  refine CallK.pd (p44 _ _ bnd1000) ?_; simp only [push_cast, seval, beq_self_eq_true, cond_true, cond_false]; (repeat ((with_reducible refine And.intro ?_ ?_); (focus (first | trivial | assumption | omega | (intro _ hrow; obtain ⟨_, _, rfl⟩ := List.mem_map.1 hrow; rfl) | ((intros; repeat' apply And.intro) <;> first | trivial | assumption | omega | (intro _ hrow; obtain ⟨_, _, rfl⟩ := List.mem_map.1 hrow; rfl) | (simp_all; done) | (simp_all; omega))))))
  refine CallK.pd h56 ?_; simp only [push_cast, seval, ofD, beq_self_eq_true, cond_true, cond_false]; (repeat ((with_reducible refine And.intro ?_ ?_); (focus (first | trivial | assumption | omega | (intro _ hrow; obtain ⟨_, _, rfl⟩ := List.mem_map.1 hrow; rfl) | ((intros; repeat' apply And.intro) <;> first | trivial | assumption | omega | (intro _ hrow; obtain ⟨_, _, rfl⟩ := List.mem_map.1 hrow; rfl) | (simp_all; done) | (simp_all; omega))))))
  refine CallK.pd h36 ?_; simp only [push_cast, seval, beq_self_eq_true, cond_true, cond_false]; (repeat ((with_reducible refine And.intro ?_ ?_); (focus (first | trivial | assumption | omega | (intro _ hrow; obtain ⟨_, _, rfl⟩ := List.mem_map.1 hrow; rfl) | ((intros; repeat' apply And.intro) <;> first | trivial | assumption | omega | (intro _ hrow; obtain ⟨_, _, rfl⟩ := List.mem_map.1 hrow; rfl) | (simp_all; done) | (simp_all; omega))))))
  refine CallK.pd h33 ?_; simp only [push_cast, seval, beq_self_eq_true, cond_true, cond_false]; (repeat ((with_reducible refine And.intro ?_ ?_); (focus (first | trivial | assumption | omega | (intro _ hrow; obtain ⟨_, _, rfl⟩ := List.mem_map.1 hrow; rfl) | ((intros; repeat' apply And.intro) <;> first | trivial | assumption | omega | (intro _ hrow; obtain ⟨_, _, rfl⟩ := List.mem_map.1 hrow; rfl) | (simp_all; done) | (simp_all; omega))))))
  refine hK _ ?_; clear hK; clear K
  refine awp_ret ?_; (repeat (first | refine then_ret ?_ | refine inblock_ret ?_)); refine fin_of (by simp only [push_cast, seval]; first | done | rfl) (by first | trivial | first | trivial | assumption | omega | (intro _ hrow; obtain ⟨_, _, rfl⟩ := List.mem_map.1 hrow; rfl) | ((intros; repeat' apply And.intro) <;> first | trivial | assumption | omega | (intro _ hrow; obtain ⟨_, _, rfl⟩ := List.mem_map.1 hrow; rfl) | (simp_all; done) | (simp_all; omega))) ?_
  rfl

theorem p3 (ps : List Pt) (gap : Int) : PD Try.prog 3 [.sl (ps.map encP), .int .i64 gap] (.d (.bool true)) := by
  obtain ⟨gs, hgs, hsm⟩ := segs_ex ps gap
  have h17 := p17s hgs
  have h18 := p18s hgs
  refine pd_of (fn := Try.f3) [.tmp 4] (by kernel_rfl) rfl (by kernel_rfl) (Nat.le_of_ble_eq_true rfl) (by kernel_rfl) rfl rfl ?_
  refine awp_seq ?_
  refine awpF_region ?_; intro K hK; simp only [push_cast, seval]; (try simp (disch := omega) only [wrapI]); (repeat ((with_reducible refine And.intro ?_ ?_); (focus (first | trivial | assumption | omega | (intro _ hrow; obtain ⟨_, _, rfl⟩ := List.mem_map.1 hrow; rfl) | ((intros; repeat' apply And.intro) <;> first | trivial | assumption | omega | (intro _ hrow; obtain ⟨_, _, rfl⟩ := List.mem_map.1 hrow; rfl) | (simp_all; done) | (simp_all; omega)))))); refine hK _ ?_; clear hK; clear K
  refine awp_seq ?_
  refine awp_seq ?_
  refine awpF_region ?_; intro K hK; simp only [push_cast, seval]
  (repeat ((with_reducible refine And.intro ?_ ?_); (focus (first | trivial | assumption | omega | (intro _ hrow; obtain ⟨_, _, rfl⟩ := List.mem_map.1 hrow; rfl) | ((intros; repeat' apply And.intro) <;> first | trivial | assumption | omega | (intro _ hrow; obtain ⟨_, _, rfl⟩ := List.mem_map.1 hrow; rfl) | (simp_all; done) | (simp_all; omega))))))
  refine CallK.pd (p14 _ _) ?_; simp only [push_cast, seval]; (try simp (disch := omega) only [wrapI]); (repeat ((with_reducible refine And.intro ?_ ?_); (focus (first | trivial | assumption | omega | (intro _ hrow; obtain ⟨_, _, rfl⟩ := List.mem_map.1 hrow; rfl) | ((intros; repeat' apply And.intro) <;> first | trivial | assumption | omega | (intro _ hrow; obtain ⟨_, _, rfl⟩ := List.mem_map.1 hrow; rfl) | (simp_all; done) | (simp_all; omega))))))
  refine hK _ ?_; clear hK; clear K
  apply awp_cond; (focus (simp only [push_cast, seval]; rfl))
  · intro h1; (try simp only [decide_eq_true_eq, decide_eq_false_iff_not, Bool.not_eq_true', Bool.not_eq_false', Bool.and_eq_true, Bool.or_eq_true, Bool.not_eq_true] at h1)
    refine awp_seq ?_
    refine awpF_region ?_; intro K hK; simp only [push_cast, seval]
    (repeat ((with_reducible refine And.intro ?_ ?_); (focus (first | trivial | assumption | omega | (intro _ hrow; obtain ⟨_, _, rfl⟩ := List.mem_map.1 hrow; rfl) | ((intros; repeat' apply And.intro) <;> first | trivial | assumption | omega | (intro _ hrow; obtain ⟨_, _, rfl⟩ := List.mem_map.1 hrow; rfl) | (simp_all; done) | (simp_all; omega))))))
    refine CallK.pd (p15) ?_; simp only [push_cast, seval]; (try simp (disch := omega) only [wrapI]); (repeat ((with_reducible refine And.intro ?_ ?_); (focus (first | trivial | assumption | omega | (intro _ hrow; obtain ⟨_, _, rfl⟩ := List.mem_map.1 hrow; rfl) | ((intros; repeat' apply And.intro) <;> first | trivial | assumption | omega | (intro _ hrow; obtain ⟨_, _, rfl⟩ := List.mem_map.1 hrow; rfl) | (simp_all; done) | (simp_all; omega))))))
    refine hK _ ?_; clear hK; clear K
    refine awp_ret ?_; (repeat (first | refine then_ret ?_ | refine inblock_ret ?_)); refine fin_of (by simp only [push_cast, seval]; first | done | rfl) (by first | trivial | first | trivial | assumption | omega | (intro _ hrow; obtain ⟨_, _, rfl⟩ := List.mem_map.1 hrow; rfl) | ((intros; repeat' apply And.intro) <;> first | trivial | assumption | omega | (intro _ hrow; obtain ⟨_, _, rfl⟩ := List.mem_map.1 hrow; rfl) | (simp_all; done) | (simp_all; omega))) ?_
    rfl
  · intro h1; (try simp only [decide_eq_true_eq, decide_eq_false_iff_not, Bool.not_eq_true', Bool.not_eq_false', Bool.and_eq_true, Bool.or_eq_true, Bool.not_eq_true] at h1)
    have hn : ps.length ≤ 1100 := by omega
    have hg : gs.length ≤ 1000000 ∧ ∀ g, g ∈ gs → g.length ≤ 1000000 := by
      rcases hsm with rfl | ⟨f, rfl⟩
      · exact ⟨by simp, by simp⟩
      · have := groups_small (f := f) (n := ps.length)
        exact ⟨by omega, fun g hg => by have := this.2 g hg; omega⟩
    refine awp_skip ?_
    refine awp_seq ?_
    refine awpF_region ?_; intro K hK; simp only [push_cast, seval]
    (repeat ((with_reducible refine And.intro ?_ ?_); (focus (first | trivial | assumption | omega | (intro _ hrow; obtain ⟨_, _, rfl⟩ := List.mem_map.1 hrow; rfl) | ((intros; repeat' apply And.intro) <;> first | trivial | assumption | omega | (intro _ hrow; obtain ⟨_, _, rfl⟩ := List.mem_map.1 hrow; rfl) | (simp_all; done) | (simp_all; omega))))))
    refine CallK.pd (p16 ps (by omega)) ?_; simp only [push_cast, seval, ofD]; (repeat ((with_reducible refine And.intro ?_ ?_); (focus (first | trivial | assumption | omega | (intro _ hrow; obtain ⟨_, _, rfl⟩ := List.mem_map.1 hrow; rfl) | ((intros; repeat' apply And.intro) <;> first | trivial | assumption | omega | (intro _ hrow; obtain ⟨_, _, rfl⟩ := List.mem_map.1 hrow; rfl) | (simp_all; done) | (simp_all; omega))))))
    refine hK _ ?_; clear hK; clear K
    refine awp_seq ?_
    refine awpF_region ?_; intro K hK; simp only [push_cast, seval]
    (repeat ((with_reducible refine And.intro ?_ ?_); (focus (first | trivial | assumption | omega | (intro _ hrow; obtain ⟨_, _, rfl⟩ := List.mem_map.1 hrow; rfl) | ((intros; repeat' apply And.intro) <;> first | trivial | assumption | omega | (intro _ hrow; obtain ⟨_, _, rfl⟩ := List.mem_map.1 hrow; rfl) | (simp_all; done) | (simp_all; omega))))))
    refine CallK.pd (h17) ?_; simp only [push_cast, seval]; (try simp (disch := omega) only [wrapI]); (repeat ((with_reducible refine And.intro ?_ ?_); (focus (first | trivial | assumption | omega | (intro _ hrow; obtain ⟨_, _, rfl⟩ := List.mem_map.1 hrow; rfl) | ((intros; repeat' apply And.intro) <;> first | trivial | assumption | omega | (intro _ hrow; obtain ⟨_, _, rfl⟩ := List.mem_map.1 hrow; rfl) | (simp_all; done) | (simp_all; omega))))))
    refine hK _ ?_; clear hK; clear K
    refine awp_seq ?_
    refine awpF_region ?_; intro K hK; simp only [push_cast, seval]
    (repeat ((with_reducible refine And.intro ?_ ?_); (focus (first | trivial | assumption | omega | (intro _ hrow; obtain ⟨_, _, rfl⟩ := List.mem_map.1 hrow; rfl) | ((intros; repeat' apply And.intro) <;> first | trivial | assumption | omega | (intro _ hrow; obtain ⟨_, _, rfl⟩ := List.mem_map.1 hrow; rfl) | (simp_all; done) | (simp_all; omega))))))
    refine CallK.pd (h18) ?_; simp only [push_cast, seval]; (try simp (disch := omega) only [wrapI]); (repeat ((with_reducible refine And.intro ?_ ?_); (focus (first | trivial | assumption | omega | (intro _ hrow; obtain ⟨_, _, rfl⟩ := List.mem_map.1 hrow; rfl) | ((intros; repeat' apply And.intro) <;> first | trivial | assumption | omega | (intro _ hrow; obtain ⟨_, _, rfl⟩ := List.mem_map.1 hrow; rfl) | (simp_all; done) | (simp_all; omega))))))
    refine hK _ ?_; clear hK; clear K
    refine awp_seq ?_
    refine awpF_region ?_; intro K hK; simp only [push_cast, seval]
    (repeat ((with_reducible refine And.intro ?_ ?_); (focus (first | trivial | assumption | omega | (intro _ hrow; obtain ⟨_, _, rfl⟩ := List.mem_map.1 hrow; rfl) | ((intros; repeat' apply And.intro) <;> first | trivial | assumption | omega | (intro _ hrow; obtain ⟨_, _, rfl⟩ := List.mem_map.1 hrow; rfl) | (simp_all; done) | (simp_all; omega))))))
    refine CallK.pd (p19 gs gs hg.1 hg.2) ?_; simp only [push_cast, seval, decide_true, beq_self_eq_true, cond_true, cond_false]; (repeat ((with_reducible refine And.intro ?_ ?_); (focus (first | trivial | assumption | omega | (intro _ hrow; obtain ⟨_, _, rfl⟩ := List.mem_map.1 hrow; rfl) | ((intros; repeat' apply And.intro) <;> first | trivial | assumption | omega | (intro _ hrow; obtain ⟨_, _, rfl⟩ := List.mem_map.1 hrow; rfl) | (simp_all; done) | (simp_all; omega))))))
    refine CallK.pd (p20 ps ps (by omega)) ?_; simp only [push_cast, seval, decide_true, beq_self_eq_true, cond_true, cond_false]; (repeat ((with_reducible refine And.intro ?_ ?_); (focus (first | trivial | assumption | omega | (intro _ hrow; obtain ⟨_, _, rfl⟩ := List.mem_map.1 hrow; rfl) | ((intros; repeat' apply And.intro) <;> first | trivial | assumption | omega | (intro _ hrow; obtain ⟨_, _, rfl⟩ := List.mem_map.1 hrow; rfl) | (simp_all; done) | (simp_all; omega))))))
    refine CallK.pd p15 ?_; simp only [push_cast, seval, beq_self_eq_true, cond_true, cond_false]; (repeat ((with_reducible refine And.intro ?_ ?_); (focus (first | trivial | assumption | omega | (intro _ hrow; obtain ⟨_, _, rfl⟩ := List.mem_map.1 hrow; rfl) | ((intros; repeat' apply And.intro) <;> first | trivial | assumption | omega | (intro _ hrow; obtain ⟨_, _, rfl⟩ := List.mem_map.1 hrow; rfl) | (simp_all; done) | (simp_all; omega))))))
    refine hK _ ?_; clear hK; clear K
    refine awp_ret ?_; (repeat (first | refine then_ret ?_ | refine inblock_ret ?_)); refine fin_of (by simp only [push_cast, seval]; first | done | rfl) (by first | trivial | first | trivial | assumption | omega | (intro _ hrow; obtain ⟨_, _, rfl⟩ := List.mem_map.1 hrow; rfl) | ((intros; repeat' apply And.intro) <;> first | trivial | assumption | omega | (intro _ hrow; obtain ⟨_, _, rfl⟩ := List.mem_map.1 hrow; rfl) | (simp_all; done) | (simp_all; omega))) ?_
    rfl

end Go.Aw
