/-
  ReleaseStays (p14): its walk. No condition.
-/
import Derived.Test.YtmmnjelmahcbaaaPxN38
import Derived.Test.YtmmnjelmahcbaaaPkD
namespace Go.Aw
set_option linter.unusedSimpArgs false
set_option linter.unusedVariables false
open Go.RowKit Go.Proofs Go.Nt Go.Rl

def encT (b : Bool) : List D := [.bool b]
/-- What holds of a state ahead of report i. -/
def StayI (s : Sta) (good : Int) (i : Nat) : Prop := chkS s = 0 ∧ s.al ≤ i ∧ GoodI s good
theorem stay_ps {s : Sta} (h : chkS s = 0) : s.ps.length ≤ 1000000 ∧ -9223372036854775808 ≤ s.ph ∧ s.ph ≤ 9223372036854775807 := by
  obtain ⟨h1, h2, h3, h4, h5, h6, h7, h8⟩ := (chkS_iff s).1 h
  have := stgs_all h5
  simp only [phB, decide_eq_true_eq] at h6
  omega
set_option maxRecDepth 10000 in
set_option maxHeartbeats 1000000 in
theorem p14 (n0 : Int) (rs : List (Int × Int)) (fs : List Bool) (hfl : fs.length ≤ maxLen) : PD Try.prog 14 [.int .i64 n0, .sl (rs.map enc2), .sl (fs.map encT)] (.d (.bool true)) := by
  have h19 := p19
  have h20 := p20 n0 9 (by decide) (by decide)
  have bk := modI_bounds (n := n0) (m := 9) (by decide)
  generalize modI n0 9 = k1 at h20 bk
  have w1 : IntKind.i64.wrap (1 + k1) = 1 + k1 := wrapI _ (by omega)
  obtain ⟨k, hk⟩ : ∃ k : Int, 1 + k1 = k := ⟨_, rfl⟩
  rw [hk] at w1
  have h46 := p46 rs
  have hpw := planW_b rs
  have hpl : (planL rs).length ≤ 1000000 := by have := plan_len rs; omega
  have h45 := p45 k 3 4 (planL rs) hpl
  have hck : chkS (sta0 k 3 4 (planL rs)) = 0 := by
    have := sta_ok (k := k) (ol := 3) (nw := 4) (ph := 1) (st := 0) (rs := rs) (by omega) (by omega) (by omega) (.inl rfl) (by omega)
    rw [if_neg (by decide)] at this
    exact this
  rw [hck, if_pos rfl] at h45
  unfold encS sta0 at h45
  dsimp only [List.map_cons, List.map_nil] at h45
  refine pd_of (fn := Try.f14) [.tmp 6] (by kernel_rfl) rfl (by kernel_rfl) (Nat.le_of_ble_eq_true rfl) (by kernel_rfl) rfl rfl ?_
  refine awp_seq ?_
  refine awpF_region ?_; intro K hK; simp only [push_cast, seval]; (try simp (disch := omega) only [wrapI]); (repeat ((with_reducible refine And.intro ?_ ?_); (focus (first | omega | trivial | assumption | (intro _ hrow; obtain ⟨_, _, rfl⟩ := List.mem_map.1 hrow; rfl) | ((intros; repeat' apply And.intro) <;> first | omega | trivial | assumption | (intro _ hrow; obtain ⟨_, _, rfl⟩ := List.mem_map.1 hrow; rfl) | (simp_all; done) | (simp_all; omega)))))); refine hK _ ?_; clear hK; clear K
  refine awp_seq ?_
  refine awp_seq ?_
  refine awpF_region ?_; intro K hK; simp only [push_cast, seval]; (try simp (disch := omega) only [wrapI]); (repeat ((with_reducible refine And.intro ?_ ?_); (focus (first | omega | trivial | assumption | (intro _ hrow; obtain ⟨_, _, rfl⟩ := List.mem_map.1 hrow; rfl) | ((intros; repeat' apply And.intro) <;> first | omega | trivial | assumption | (intro _ hrow; obtain ⟨_, _, rfl⟩ := List.mem_map.1 hrow; rfl) | (simp_all; done) | (simp_all; omega)))))); refine hK _ ?_; clear hK; clear K
  apply awp_cond; (focus (simp only [push_cast, seval]; rfl))
  · intro h1; (try simp only [decide_eq_true_eq, decide_eq_false_iff_not, Bool.not_eq_true', Bool.not_eq_false', Bool.and_eq_true, Bool.or_eq_true, Bool.not_eq_true] at h1)
    refine awp_seq ?_
    refine awpF_region ?_; intro K hK; simp only [push_cast, seval]
    refine CallK.pd (h19) ?_; simp only [push_cast, seval]; (try simp (disch := omega) only [wrapI]); (repeat ((with_reducible refine And.intro ?_ ?_); (focus (first | omega | trivial | assumption | (intro _ hrow; obtain ⟨_, _, rfl⟩ := List.mem_map.1 hrow; rfl) | ((intros; repeat' apply And.intro) <;> first | omega | trivial | assumption | (intro _ hrow; obtain ⟨_, _, rfl⟩ := List.mem_map.1 hrow; rfl) | (simp_all; done) | (simp_all; omega))))))
    refine hK _ ?_; clear hK; clear K
    refine awp_ret ?_; (repeat (first | refine then_ret ?_ | refine inblock_ret ?_)); refine fin_of (by simp only [push_cast, seval]; first | done | rfl) (by first | trivial | first | omega | trivial | assumption | (intro _ hrow; obtain ⟨_, _, rfl⟩ := List.mem_map.1 hrow; rfl) | ((intros; repeat' apply And.intro) <;> first | omega | trivial | assumption | (intro _ hrow; obtain ⟨_, _, rfl⟩ := List.mem_map.1 hrow; rfl) | (simp_all; done) | (simp_all; omega))) ?_
    rfl
  · intro h1; (try simp only [decide_eq_true_eq, decide_eq_false_iff_not, Bool.not_eq_true', Bool.not_eq_false', Bool.and_eq_true, Bool.or_eq_true, Bool.not_eq_true] at h1)
    refine awp_skip ?_
    refine awp_seq ?_
    refine awpF_region ?_; intro K hK; simp only [push_cast, seval, w1, hk]
    refine CallK.pd (h20) ?_; simp only [push_cast, seval]; (try simp (disch := omega) only [wrapI]); (repeat ((with_reducible refine And.intro ?_ ?_); (focus (first | omega | trivial | assumption | (intro _ hrow; obtain ⟨_, _, rfl⟩ := List.mem_map.1 hrow; rfl) | ((intros; repeat' apply And.intro) <;> first | omega | trivial | assumption | (intro _ hrow; obtain ⟨_, _, rfl⟩ := List.mem_map.1 hrow; rfl) | (simp_all; done) | (simp_all; omega))))))
    simp only [push_cast, seval, w1, hk]
    refine CallK.pd (h46) ?_; simp only [push_cast, seval]; (try simp (disch := omega) only [wrapI]); (repeat ((with_reducible refine And.intro ?_ ?_); (focus (first | omega | trivial | assumption | (intro _ hrow; obtain ⟨_, _, rfl⟩ := List.mem_map.1 hrow; rfl) | ((intros; repeat' apply And.intro) <;> first | omega | trivial | assumption | (intro _ hrow; obtain ⟨_, _, rfl⟩ := List.mem_map.1 hrow; rfl) | (simp_all; done) | (simp_all; omega))))))
    refine CallK.pd (h45) ?_; simp only [push_cast, seval]; (try simp (disch := omega) only [wrapI]); (repeat ((with_reducible refine And.intro ?_ ?_); (focus (first | omega | trivial | assumption | (intro _ hrow; obtain ⟨_, _, rfl⟩ := List.mem_map.1 hrow; rfl) | ((intros; repeat' apply And.intro) <;> first | omega | trivial | assumption | (intro _ hrow; obtain ⟨_, _, rfl⟩ := List.mem_map.1 hrow; rfl) | (simp_all; done) | (simp_all; omega))))))
    refine hK _ ?_; clear hK; clear K
    refine awp_seq ?_
    refine awp_seq ?_
    refine awpF_region ?_; intro K hK; simp only [push_cast, seval]; (try simp (disch := omega) only [wrapI]); (repeat ((with_reducible refine And.intro ?_ ?_); (focus (first | omega | trivial | assumption | (intro _ hrow; obtain ⟨_, _, rfl⟩ := List.mem_map.1 hrow; rfl) | ((intros; repeat' apply And.intro) <;> first | omega | trivial | assumption | (intro _ hrow; obtain ⟨_, _, rfl⟩ := List.mem_map.1 hrow; rfl) | (simp_all; done) | (simp_all; omega)))))); refine hK _ ?_; clear hK; clear K
    apply awp_cond; (focus (simp only [push_cast, seval]; rfl))
    · intro h2
      exact absurd h2 (by decide)
    intro h2; (try simp only [decide_eq_true_eq, decide_eq_false_iff_not, Bool.not_eq_true', Bool.not_eq_false', Bool.and_eq_true, Bool.or_eq_true, Bool.not_eq_true] at h2)
    refine awp_skip ?_
    refine awp_seq ?_
    refine awpF_region ?_; intro K hK; simp only [push_cast, seval]; (try simp (disch := omega) only [wrapI]); (repeat ((with_reducible refine And.intro ?_ ?_); (focus (first | omega | trivial | assumption | (intro _ hrow; obtain ⟨_, _, rfl⟩ := List.mem_map.1 hrow; rfl) | ((intros; repeat' apply And.intro) <;> first | omega | trivial | assumption | (intro _ hrow; obtain ⟨_, _, rfl⟩ := List.mem_map.1 hrow; rfl) | (simp_all; done) | (simp_all; omega)))))); refine hK _ ?_; clear hK; clear K
    refine awp_seq ?_
    refine awp_seq ?_
    refine awpF_region ?_; intro K hK; simp only [push_cast, seval]; (try simp (disch := omega) only [wrapI]); (repeat ((with_reducible refine And.intro ?_ ?_); (focus (first | omega | trivial | assumption | (intro _ hrow; obtain ⟨_, _, rfl⟩ := List.mem_map.1 hrow; rfl) | ((intros; repeat' apply And.intro) <;> first | omega | trivial | assumption | (intro _ hrow; obtain ⟨_, _, rfl⟩ := List.mem_map.1 hrow; rfl) | (simp_all; done) | (simp_all; omega)))))); refine hK _ ?_; clear hK; clear K
    refine awp_block ?_
    refine awp_loopP (α := Sta × Int × Nat) (st := fun x => ⟨[(2, .d (.sl (fs.map encT))), (7, .ptr 0 0 0), (9, .d (.int .i64 x.2.1)), (10, .d (.int .i64 x.2.2))], [.cells [.d (.int .i64 x.1.k), .d (.int .i64 x.1.ol), .d (.int .i64 x.1.nw), .d (.sl (x.1.ps.map encG)), .d (.int .i64 x.1.ph), .d (.int .i64 x.1.st), .d (.int .i64 x.1.gt), .d (.int .i64 x.1.bd), .d (.int .i64 x.1.al)]]⟩) (inv := fun x => x.2.2 ≤ fs.length ∧ StayI x.1 x.2.1 x.2.2) (μ := fun x => fs.length - x.2.2) (x0 := (sta0 k 3 4 (planL rs), 0, 0)) (r0 := [0]) ?_ ?_ ?_
    · exact ⟨Nat.zero_le _, hck, Int.le_refl _, fun _ => .inl ⟨rfl, rfl⟩⟩
    · unfold sta0
      exact ⟨by simp, by simp, by simp [push_cast, seval], by simp [push_cast, seval], by simp [push_cast, seval], by simp [push_cast, seval]⟩
    rintro ⟨s, good, i⟩ ⟨hi, hS⟩
    dsimp only at hi hS ⊢
    obtain ⟨hc, hal, hG⟩ := hS
    obtain ⟨hn, hp1, hp2⟩ := stay_ps hc
    have hcI := (chkS_iff s).1 hc
    obtain ⟨hkk, hib, hnb, hne, hst, hph, hcn, hgt⟩ := hcI
    have hcn0 := hcn
    simp only [cntB, decide_eq_true_eq] at hcn
    simp only [phB, decide_eq_true_eq] at hph
    obtain ⟨K1, hK1⟩ : ∃ K : Nat, s.k = K := ⟨s.k.toNat, by omega⟩
    refine awp_seq ?_
    refine awp_seq ?_
    refine awpF_region ?_; intro K hK; simp only [push_cast, seval]; (try simp (disch := omega) only [wrapI]); (repeat ((with_reducible refine And.intro ?_ ?_); (focus (first | omega | trivial | assumption | (intro _ hrow; obtain ⟨_, _, rfl⟩ := List.mem_map.1 hrow; rfl) | ((intros; repeat' apply And.intro) <;> first | omega | trivial | assumption | (intro _ hrow; obtain ⟨_, _, rfl⟩ := List.mem_map.1 hrow; rfl) | (simp_all; done) | (simp_all; omega)))))); refine hK _ ?_; clear hK; clear K
    apply awp_cond; (focus (simp only [push_cast, seval]; rfl))
    · intro h3; (try simp only [decide_eq_true_eq, decide_eq_false_iff_not, Bool.not_eq_true', Bool.not_eq_false', Bool.and_eq_true, Bool.or_eq_true, Bool.not_eq_true] at h3)
      have hi2 : i < fs.length := by omega
      refine awp_skip ?_
      refine awp_mid (fun u => ∃ (s2 : Sta) (g2 : Int), StayI s2 g2 (i + 1) ∧ u = ⟨[(2, .d (.sl (fs.map encT))), (7, .ptr 0 0 0), (9, .d (.int .i64 g2)), (10, .d (.int .i64 i))], [.cells [.d (.int .i64 s2.k), .d (.int .i64 s2.ol), .d (.int .i64 s2.nw), .d (.sl (s2.ps.map encG)), .d (.int .i64 s2.ph), .d (.int .i64 s2.st), .d (.int .i64 s2.gt), .d (.int .i64 s2.bd), .d (.int .i64 s2.al)]]⟩) ?_ ?_
      · refine awp_block ?_
        refine awp_seq ?_
        refine awpF_region ?_; intro K hK; simp only [push_cast, seval]; (try simp (disch := omega) only [wrapI]); (repeat ((with_reducible refine And.intro ?_ ?_); (focus (first | omega | trivial | assumption | (intro _ hrow; obtain ⟨_, _, rfl⟩ := List.mem_map.1 hrow; rfl) | ((intros; repeat' apply And.intro) <;> first | omega | trivial | assumption | (intro _ hrow; obtain ⟨_, _, rfl⟩ := List.mem_map.1 hrow; rfl) | (simp_all; done) | (simp_all; omega)))))); refine hK _ ?_; clear hK; clear K
        refine awp_mid (fun u => ∃ c : Nat, (c : Int) < s.k ∧ ((∃ d : Nat, (d : Int) < s.k ∧ hasI s d = s.nw) → hasI s c = s.nw) ∧ u = ⟨[(2, .d (.sl (fs.map encT))), (7, .ptr 0 0 0), (9, .d (.int .i64 good)), (10, .d (.int .i64 i)), (11, .d (.int .i64 c))], [.cells [.d (.int .i64 s.k), .d (.int .i64 s.ol), .d (.int .i64 s.nw), .d (.sl (s.ps.map encG)), .d (.int .i64 s.ph), .d (.int .i64 s.st), .d (.int .i64 s.gt), .d (.int .i64 s.bd), .d (.int .i64 s.al)]]⟩) ?_ ?_
        · refine awp_seq ?_
          refine awpF_region ?_; intro K hK; simp only [push_cast, seval]; (try simp (disch := omega) only [wrapI]); (repeat ((with_reducible refine And.intro ?_ ?_); (focus (first | omega | trivial | assumption | (intro _ hrow; obtain ⟨_, _, rfl⟩ := List.mem_map.1 hrow; rfl) | ((intros; repeat' apply And.intro) <;> first | omega | trivial | assumption | (intro _ hrow; obtain ⟨_, _, rfl⟩ := List.mem_map.1 hrow; rfl) | (simp_all; done) | (simp_all; omega)))))); refine hK _ ?_; clear hK; clear K
          refine awp_block ?_
          refine awp_loopP (α := Nat × Nat) (st := fun x => ⟨[(2, .d (.sl (fs.map encT))), (7, .ptr 0 0 0), (9, .d (.int .i64 good)), (10, .d (.int .i64 i)), (11, .d (.int .i64 x.1)), (12, .d (.int .i64 x.2))], [.cells [.d (.int .i64 s.k), .d (.int .i64 s.ol), .d (.int .i64 s.nw), .d (.sl (s.ps.map encG)), .d (.int .i64 s.ph), .d (.int .i64 s.st), .d (.int .i64 s.gt), .d (.int .i64 s.bd), .d (.int .i64 s.al)]]⟩) (inv := fun x => (x.2 : Int) ≤ s.k ∧ (x.1 : Int) < s.k ∧ ((∃ d : Nat, d < x.2 ∧ hasI s d = s.nw) → hasI s x.1 = s.nw)) (μ := fun x => K1 - x.2) (x0 := (0, 0)) (r0 := [0]) ?_ ?_ ?_
          · refine ⟨by show (0 : Int) ≤ s.k; omega, by show (0 : Int) < s.k; omega, ?_⟩
            rintro ⟨d, hd, _⟩
            exact absurd hd (Nat.not_lt_zero _)
          · exact ⟨by simp, by simp, by simp [push_cast, seval], by simp [push_cast, seval], by simp [push_cast, seval], by simp [push_cast, seval]⟩
          rintro ⟨c, v⟩ ⟨hv, hcv, hsome⟩
          dsimp only at hv hcv hsome ⊢
          have h47 := p47 s v hn hp1 hp2
          unfold encS at h47
          have wv : IntKind.i64.wrap ((v : Int) + 1) = (v : Int) + 1 := wrapI _ (by omega)
          refine awp_seq ?_
          refine awp_seq ?_
          refine awpF_region ?_; intro K hK; simp only [push_cast, seval]; (try simp (disch := omega) only [wrapI]); (repeat ((with_reducible refine And.intro ?_ ?_); (focus (first | omega | trivial | assumption | (intro _ hrow; obtain ⟨_, _, rfl⟩ := List.mem_map.1 hrow; rfl) | ((intros; repeat' apply And.intro) <;> first | omega | trivial | assumption | (intro _ hrow; obtain ⟨_, _, rfl⟩ := List.mem_map.1 hrow; rfl) | (simp_all; done) | (simp_all; omega)))))); refine hK _ ?_; clear hK; clear K
          apply awp_cond; (focus (simp only [push_cast, seval]; rfl))
          · intro h4; (try simp only [decide_eq_true_eq, decide_eq_false_iff_not, Bool.not_eq_true', Bool.not_eq_false', Bool.and_eq_true, Bool.or_eq_true, Bool.not_eq_true] at h4)
            refine awp_skip ?_
            refine awp_mid (fun u => ∃ c2 : Nat, (c2 : Int) < s.k ∧ ((∃ d : Nat, d < v + 1 ∧ hasI s d = s.nw) → hasI s c2 = s.nw) ∧ u = ⟨[(2, .d (.sl (fs.map encT))), (7, .ptr 0 0 0), (9, .d (.int .i64 good)), (10, .d (.int .i64 i)), (11, .d (.int .i64 c2)), (12, .d (.int .i64 v))], [.cells [.d (.int .i64 s.k), .d (.int .i64 s.ol), .d (.int .i64 s.nw), .d (.sl (s.ps.map encG)), .d (.int .i64 s.ph), .d (.int .i64 s.st), .d (.int .i64 s.gt), .d (.int .i64 s.bd), .d (.int .i64 s.al)]]⟩) ?_ ?_
            · refine awp_block ?_
              refine awp_seq ?_
              refine awpF_draw [0,1,3,4,2,5] (by kernel_rfl) (by kernel_rfl) rfl ?_; intro K hK; simp only [push_cast, seval]
              refine CallK.pd (h47) ?_; simp only [push_cast, seval]; (try simp (disch := omega) only [wrapI]); (repeat ((with_reducible refine And.intro ?_ ?_); (focus (first | omega | trivial | assumption | (intro _ hrow; obtain ⟨_, _, rfl⟩ := List.mem_map.1 hrow; rfl) | ((intros; repeat' apply And.intro) <;> first | omega | trivial | assumption | (intro _ hrow; obtain ⟨_, _, rfl⟩ := List.mem_map.1 hrow; rfl) | (simp_all; done) | (simp_all; omega))))))
              refine hK _ ?_; clear hK; clear K
              apply awp_cond; (focus (simp only [push_cast, seval]; rfl))
              · intro h5; (try simp only [decide_eq_true_eq, decide_eq_false_iff_not, Bool.not_eq_true', Bool.not_eq_false', Bool.and_eq_true, Bool.or_eq_true, Bool.not_eq_true] at h5)
                have h6 : hasI s v = s.nw := by simpa using h5
                refine awpF_region ?_; intro K hK; simp only [push_cast, seval]; (try simp (disch := omega) only [wrapI]); (repeat ((with_reducible refine And.intro ?_ ?_); (focus (first | omega | trivial | assumption | (intro _ hrow; obtain ⟨_, _, rfl⟩ := List.mem_map.1 hrow; rfl) | ((intros; repeat' apply And.intro) <;> first | omega | trivial | assumption | (intro _ hrow; obtain ⟨_, _, rfl⟩ := List.mem_map.1 hrow; rfl) | (simp_all; done) | (simp_all; omega)))))); refine hK _ ?_; clear hK; clear K
                refine inblock_norm (mid_end [0] _ ⟨v, by omega, fun _ => h6, rfl⟩ ?_)
                exact ⟨by simp, by simp, by simp [push_cast, seval], by simp [push_cast, seval], by simp [push_cast, seval], by simp [push_cast, seval]⟩
              · intro h5; (try simp only [decide_eq_true_eq, decide_eq_false_iff_not, Bool.not_eq_true', Bool.not_eq_false', Bool.and_eq_true, Bool.or_eq_true, Bool.not_eq_true] at h5)
                have h6 : ¬ hasI s v = s.nw := by simpa using h5
                refine awp_skip ?_
                refine inblock_norm (mid_end [0] _ ⟨c, hcv, ?_, rfl⟩ ?_)
                · rintro ⟨d, hd, hd2⟩
                  refine hsome ⟨d, ?_, hd2⟩
                  rcases Nat.lt_or_ge d v with h7 | h7
                  · exact h7
                  · obtain rfl : d = v := by omega
                    exact absurd hd2 h6
                · exact ⟨by simp, by simp, by simp [push_cast, seval], by simp [push_cast, seval], by simp [push_cast, seval], by simp [push_cast, seval]⟩
            · rintro _ ⟨c2, hc2, hs2, rfl⟩
              refine awpF_region ?_; intro K hK; simp only [push_cast, seval, wv]; (try simp (disch := omega) only [wrapI]); (repeat ((with_reducible refine And.intro ?_ ?_); (focus (first | omega | trivial | assumption | (intro _ hrow; obtain ⟨_, _, rfl⟩ := List.mem_map.1 hrow; rfl) | ((intros; repeat' apply And.intro) <;> first | omega | trivial | assumption | (intro _ hrow; obtain ⟨_, _, rfl⟩ := List.mem_map.1 hrow; rfl) | (simp_all; done) | (simp_all; omega)))))); refine hK _ ?_; clear hK; clear K
              refine round_endG (c2, v + 1) [0] ⟨by show K1 - (v + 1) < K1 - v; omega, ⟨by show ((v + 1 : Nat) : Int) ≤ s.k; omega, hc2, hs2⟩, ?_⟩
              exact ⟨by simp, by simp, by simp [push_cast, seval], by simp [push_cast, seval], by simp [push_cast, seval], by simp [push_cast, seval]⟩
          · intro h4; (try simp only [decide_eq_true_eq, decide_eq_false_iff_not, Bool.not_eq_true', Bool.not_eq_false', Bool.and_eq_true, Bool.or_eq_true, Bool.not_eq_true] at h4)
            refine awp_exit ?_; (repeat (first | refine then_exit ?_ | refine inblock_other (by decide) ?_)); refine inblock_same ?_
            refine mid_end [0] _ ⟨c, hcv, ?_, rfl⟩ ?_
            · rintro ⟨d, hd, hd2⟩
              exact hsome ⟨d, by omega, hd2⟩
            · exact ⟨by simp, by simp, by simp [push_cast, seval], by simp [push_cast, seval], by simp [push_cast, seval], by simp [push_cast, seval]⟩
        · rintro _ ⟨c, hck2, hsome, rfl⟩
          obtain ⟨t, ht⟩ : ∃ t : Nat, s.st = t := ⟨s.st.toNat, by omega⟩
          have htl : t < s.ps.length := by omega
          have g1 := List.getElem?_eq_getElem hi2
          have gf : (fs.map encT)[i]? = some (encT fs[i]) := by rw [List.getElem?_map, g1]; rfl
          generalize fs[i] = b at gf g1
          simp only [encT] at gf
          have h49 := p49 s c b s.ps[t] (by rw [ht, Int.toNat_natCast, List.getElem?_eq_getElem htl]; rfl) hn hp1 hp2
          by_cases hp : s.ph = 1
          · have hrun : runC s = 0 := by unfold runC; rw [if_pos hc, if_pos hp]
            have hcin : 0 ≤ (c : Int) ∧ (c : Int) < s.k := ⟨by omega, hck2⟩
            have hout : outB s c = false := by
              unfold outB
              rw [decide_eq_true hcin.1, decide_eq_true hcin.2]
              by_cases h8 : s.st > 0
              · rw [hsome (some_new hc hp h8)]; simp
              · simp [h8]
            have hal40 : s.al < 1099511627776 := by
              have h60 : (fs.length : Int) ≤ 60 := by omega
              omega
            have hrep : repC s c = 0 := by
              rw [repC_on c hrun, hout, if_neg (by decide), if_neg (by omega)]
            rw [hrep, if_pos rfl] at h49
            have hcy := jud_ok hc hp ht htl hal40 b
            have hsame := jud_same s b s.ps[t]
            have hle60 : s.gt < 60 := by
              have hl : leO s ≤ 60 := by
                unfold leO
                rw [ht, Int.toNat_natCast, List.getElem?_eq_getElem htl]
                have := stg_le (List.all_eq_true.1 (stgs_all hst).2.2 _ (List.getElem_mem htl))
                show (s.ps[t]).le ≤ 60
                omega
              omega
            have hpass := good_pass (bad := b) (g := s.ps[t]) hcn0 hp hG hle60
            have hon := good_on (bad := b) (g := s.ps[t]) hcn0 hp hG
            have g2 : (s.ps.map encG)[t]? = some (encG s.ps[t]) := by rw [List.getElem?_map, List.getElem?_eq_getElem htl]; rfl
            simp only [encG] at g2
            have hgb : -100 ≤ good ∧ good < 60 := by
              rcases hG hp with h8 | h8 <;> omega
            have wal : IntKind.i64.wrap (s.al + 1) = s.al + 1 := wrapI _ (by omega)
            have wg : IntKind.i64.wrap (good + 1) = good + 1 := wrapI _ (by omega)
            generalize s.ps[t] = g at h49 hcy hsame hpass hon g2
            have h31 := p31 0 g.rn g.rd g.an g.ad
            have gl := encG_len s.ps
            generalize judS (cntS s b) g = y at h49 hcy hsame hpass hon
            obtain ⟨e1, e2, e3, e4, e5, e6⟩ := hsame
            obtain ⟨yn, yp1, yp2⟩ := stay_ps hcy
            have h50 := p50 y yn yp1 yp2
            rw [hcy] at h50
            unfold encS at h49 h50
            have v1 : (y.st < s.st) = False := eq_false (by omega)
            have v2 : (y.al != s.al + 1) = false := by rw [e5]; simp
            refine awp_seq ?_
            refine awpF_drawT (DT.op 0 (DT.op 1 (DT.op 2 (DT.op 3 (DT.op 4 (DT.op 5 (DT.or (DT.op 6 (DT.op 7 (DT.op 8 (DT.or (DT.op 9 (DT.op 10 (DT.op 11 (DT.op 12 DT.nil)))) (DT.op 10 (DT.or (DT.op 9 (DT.op 11 (DT.op 12 DT.nil))) (DT.op 11 (DT.op 9 (DT.op 12 DT.nil))))))))) (DT.op 10 (DT.op 6 (DT.op 7 (DT.op 8 (DT.or (DT.op 9 (DT.op 11 (DT.op 12 DT.nil))) (DT.op 11 (DT.op 9 (DT.op 12 DT.nil))))))))))))))) (by kernel_rfl) (by kernel_rfl) (by kernel_rfl) ?_; intro K hK; apply dt_close; (rotate_left; (intro fin; (focus (simp only [push_cast, seval, gf, Int.toNat_natCast]; (try simp (disch := omega) only [wrapI]); (repeat' (first | exact fin | (with_reducible refine And.intro ?_ ?_) | (refine CallK.pd (h49) ?_; simp only [push_cast, seval, gf, Int.toNat_natCast]; (try simp (disch := omega) only [wrapI])) | (refine CallK.pg (fun _ => h49) ?_; simp only [push_cast, seval, gf, Int.toNat_natCast]; (try simp (disch := omega) only [wrapI])) | first | omega | trivial | assumption | (intro _ hrow; obtain ⟨_, _, rfl⟩ := List.mem_map.1 hrow; rfl) | ((intros; repeat' apply And.intro) <;> first | omega | trivial | assumption | (intro _ hrow; obtain ⟨_, _, rfl⟩ := List.mem_map.1 hrow; rfl) | (simp_all; done) | (simp_all; omega)))))))); refine hK _ ?_; clear hK; clear K
            refine awp_seq ?_
            refine awp_seq ?_
            refine awpF_region ?_; intro K hK; simp only [push_cast, seval]; (try simp (disch := omega) only [wrapI]); (repeat ((with_reducible refine And.intro ?_ ?_); (focus (first | omega | trivial | assumption | (intro _ hrow; obtain ⟨_, _, rfl⟩ := List.mem_map.1 hrow; rfl) | ((intros; repeat' apply And.intro) <;> first | omega | trivial | assumption | (intro _ hrow; obtain ⟨_, _, rfl⟩ := List.mem_map.1 hrow; rfl) | (simp_all; done) | (simp_all; omega)))))); refine hK _ ?_; clear hK; clear K
            apply awp_cond; (focus (simp only [push_cast, seval]; rfl))
            · intro h8; (try simp only [decide_eq_true_eq, decide_eq_false_iff_not, Bool.not_eq_true', Bool.not_eq_false', Bool.and_eq_true, Bool.or_eq_true, Bool.not_eq_true] at h8)
              exact absurd hp (by simpa using h8)
            intro h8; (try simp only [decide_eq_true_eq, decide_eq_false_iff_not, Bool.not_eq_true', Bool.not_eq_false', Bool.and_eq_true, Bool.or_eq_true, Bool.not_eq_true] at h8)
            refine awp_skip ?_
            refine awp_seq ?_
            refine awp_seq ?_
            refine awpF_region ?_; intro K hK; simp only [push_cast, seval, wal, v1, v2, decide_false, Bool.not_false, bne_self_eq_false]
            refine CallK.pg (fun _ => h50) ?_
            simp only [push_cast, seval, wal, v1, v2, decide_false, Bool.not_false, bne_self_eq_false]
            (repeat ((with_reducible refine And.intro ?_ ?_); (focus (first | omega | trivial | assumption | (intro _ hrow; obtain ⟨_, _, rfl⟩ := List.mem_map.1 hrow; rfl) | ((intros; repeat' apply And.intro) <;> first | omega | trivial | assumption | (intro _ hrow; obtain ⟨_, _, rfl⟩ := List.mem_map.1 hrow; rfl) | (simp_all; done) | (simp_all; omega))))))
            refine hK _ ?_; clear hK; clear K
            apply awp_cond; (focus (simp only [push_cast, seval]; rfl))
            · intro h9
              exact absurd h9 (by decide)
            intro h9
            clear h9
            refine awp_skip ?_
            refine awp_seq ?_
            refine awpF_region ?_; intro K hK; simp only [push_cast, seval, wg]; (try simp (disch := omega) only [wrapI]); (repeat ((with_reducible refine And.intro ?_ ?_); (focus (first | omega | trivial | assumption | (intro _ hrow; obtain ⟨_, _, rfl⟩ := List.mem_map.1 hrow; rfl) | ((intros; repeat' apply And.intro) <;> first | omega | trivial | assumption | (intro _ hrow; obtain ⟨_, _, rfl⟩ := List.mem_map.1 hrow; rfl) | (simp_all; done) | (simp_all; omega)))))); refine hK _ ?_; clear hK; clear K
            refine awp_mid (fun u => u = ⟨[(2, .d (.sl (fs.map encT))), (7, .ptr 0 0 0), (9, .d (.int .i64 (goodI s good b))), (10, .d (.int .i64 i)), (13, .ptr 1 0 0)], [.cells [.d (.int .i64 s.k), .d (.int .i64 s.ol), .d (.int .i64 s.nw), .d (.sl (s.ps.map encG)), .d (.int .i64 s.ph), .d (.int .i64 s.st), .d (.int .i64 s.gt), .d (.int .i64 s.bd), .d (.int .i64 s.al)], .cells [.d (.int .i64 y.k), .d (.int .i64 y.ol), .d (.int .i64 y.nw), .d (.sl (y.ps.map encG)), .d (.int .i64 y.ph), .d (.int .i64 y.st), .d (.int .i64 y.gt), .d (.int .i64 y.bd), .d (.int .i64 y.al)]]⟩) ?_ ?_
            · refine awp_seq ?_
              cases b
              · refine awpF_region ?_; intro K hK; simp only [push_cast, seval, gf, Int.toNat_natCast]
                (repeat ((with_reducible refine And.intro ?_ ?_); (focus (first | omega | trivial | assumption | (intro _ hrow; obtain ⟨_, _, rfl⟩ := List.mem_map.1 hrow; rfl) | ((intros; repeat' apply And.intro) <;> first | omega | trivial | assumption | (intro _ hrow; obtain ⟨_, _, rfl⟩ := List.mem_map.1 hrow; rfl) | (simp_all; done) | (simp_all; omega))))))
                refine hK _ ?_; clear hK; clear K
                apply awp_cond; (focus (simp only [push_cast, seval]; rfl))
                · intro h9; (try simp only [decide_eq_true_eq, decide_eq_false_iff_not, Bool.not_eq_true', Bool.not_eq_false', Bool.and_eq_true, Bool.or_eq_true, Bool.not_eq_true] at h9)
                  have e : goodI s good false = -100 := by unfold goodI; rw [if_pos (by simpa using h9)]
                  rw [e]
                  refine awpF_region ?_; intro K hK; simp only [push_cast, seval]; (try simp (disch := omega) only [wrapI]); (repeat ((with_reducible refine And.intro ?_ ?_); (focus (first | omega | trivial | assumption | (intro _ hrow; obtain ⟨_, _, rfl⟩ := List.mem_map.1 hrow; rfl) | ((intros; repeat' apply And.intro) <;> first | omega | trivial | assumption | (intro _ hrow; obtain ⟨_, _, rfl⟩ := List.mem_map.1 hrow; rfl) | (simp_all; done) | (simp_all; omega)))))); refine hK _ ?_; clear hK; clear K
                  refine mid_end [0, 1] _ rfl ?_
                  exact ⟨by simp, by simp, by simp [push_cast, seval], by simp [push_cast, seval], by simp [push_cast, seval], by simp [push_cast, seval]⟩
                · intro h9; (try simp only [decide_eq_true_eq, decide_eq_false_iff_not, Bool.not_eq_true', Bool.not_eq_false', Bool.and_eq_true, Bool.or_eq_true, Bool.not_eq_true] at h9)
                  have e : goodI s good false = good + 1 := by unfold goodI; rw [if_neg (by simpa using h9)]
                  rw [e]
                  refine awp_skip ?_
                  refine mid_end [0, 1] _ rfl ?_
                  exact ⟨by simp, by simp, by simp [push_cast, seval], by simp [push_cast, seval], by simp [push_cast, seval], by simp [push_cast, seval]⟩
              · refine awpF_region ?_; intro K hK; simp only [push_cast, seval, gf, Int.toNat_natCast]
                (repeat ((with_reducible refine And.intro ?_ ?_); (focus (first | omega | trivial | assumption | (intro _ hrow; obtain ⟨_, _, rfl⟩ := List.mem_map.1 hrow; rfl) | ((intros; repeat' apply And.intro) <;> first | omega | trivial | assumption | (intro _ hrow; obtain ⟨_, _, rfl⟩ := List.mem_map.1 hrow; rfl) | (simp_all; done) | (simp_all; omega))))))
                refine hK _ ?_; clear hK; clear K
                apply awp_cond; (focus (simp only [push_cast, seval]; rfl))
                · intro h9; (try simp only [decide_eq_true_eq, decide_eq_false_iff_not, Bool.not_eq_true', Bool.not_eq_false', Bool.and_eq_true, Bool.or_eq_true, Bool.not_eq_true] at h9)
                  rw [show goodI s good true = -100 from rfl]
                  refine awpF_region ?_; intro K hK; simp only [push_cast, seval]; (try simp (disch := omega) only [wrapI]); (repeat ((with_reducible refine And.intro ?_ ?_); (focus (first | omega | trivial | assumption | (intro _ hrow; obtain ⟨_, _, rfl⟩ := List.mem_map.1 hrow; rfl) | ((intros; repeat' apply And.intro) <;> first | omega | trivial | assumption | (intro _ hrow; obtain ⟨_, _, rfl⟩ := List.mem_map.1 hrow; rfl) | (simp_all; done) | (simp_all; omega)))))); refine hK _ ?_; clear hK; clear K
                  refine mid_end [0, 1] _ rfl ?_
                  exact ⟨by simp, by simp, by simp [push_cast, seval], by simp [push_cast, seval], by simp [push_cast, seval], by simp [push_cast, seval]⟩
                · intro h9
                  exact absurd h9 (by decide)
            · rintro _ rfl
              refine awp_mid (fun u => ∃ g3 : Int, GoodI y g3 ∧ u = ⟨[(2, .d (.sl (fs.map encT))), (7, .ptr 0 0 0), (9, .d (.int .i64 g3)), (10, .d (.int .i64 i)), (13, .ptr 1 0 0)], [.cells [.d (.int .i64 s.k), .d (.int .i64 s.ol), .d (.int .i64 s.nw), .d (.sl (s.ps.map encG)), .d (.int .i64 s.ph), .d (.int .i64 s.st), .d (.int .i64 s.gt), .d (.int .i64 s.bd), .d (.int .i64 s.al)], .cells [.d (.int .i64 y.k), .d (.int .i64 y.ol), .d (.int .i64 y.nw), .d (.sl (y.ps.map encG)), .d (.int .i64 y.ph), .d (.int .i64 y.st), .d (.int .i64 y.gt), .d (.int .i64 y.bd), .d (.int .i64 y.al)]]⟩) ?_ ?_
              · generalize goodI s good b = gd at hpass hon ⊢
                have hG2 : (s.st < y.st ∨ y.ph = 2) → (gd ≥ 0 → neededI 0 g.rn g.rd g.an g.ad ≤ gd) ∧ GoodI y 0 := hpass
                rw [ht] at hG2 hon e6
                rw [ht]
                by_cases hs : (t : Int) < y.st
                · have v3 : (y.st > (t : Int)) = True := eq_true hs
                  have hps : (t : Int) < y.st ∨ y.ph = 2 := .inl hs
                  refine awp_seq ?_
                  refine awpF_region ?_; intro K hK; simp only [push_cast, seval, v3, decide_true, Bool.not_true]
                  (repeat ((with_reducible refine And.intro ?_ ?_); (focus (first | omega | trivial | assumption | (intro _ hrow; obtain ⟨_, _, rfl⟩ := List.mem_map.1 hrow; rfl) | ((intros; repeat' apply And.intro) <;> first | omega | trivial | assumption | (intro _ hrow; obtain ⟨_, _, rfl⟩ := List.mem_map.1 hrow; rfl) | (simp_all; done) | (simp_all; omega))))))
                  refine hK _ ?_; clear hK; clear K
                  apply awp_cond; (focus (simp only [push_cast, seval]; rfl))
                  · intro h9
                    clear h9
                    refine awp_seq ?_
                    refine awpF_region ?_; intro K hK; simp only [push_cast, seval, g2, Int.toNat_natCast]
                    repeat (with_reducible refine And.intro ?_ ?_; (focus (first | exact gl | omega)))
                    refine hK _ ?_; clear hK; clear K
                    by_cases hge : gd ≥ 0
                    · have v4 : (gd ≥ 0) = True := eq_true hge
                      have v5 : (gd < neededI 0 g.rn g.rd g.an g.ad) = False := eq_false (by have := (hG2 hps).1 hge; omega)
                      refine awp_seq ?_
                      refine awp_seq ?_
                      refine awpF_region ?_; intro K hK; simp only [push_cast, seval, v4, decide_true]
                      (repeat ((with_reducible refine And.intro ?_ ?_); (focus (first | omega | trivial | assumption | (intro _ hrow; obtain ⟨_, _, rfl⟩ := List.mem_map.1 hrow; rfl) | ((intros; repeat' apply And.intro) <;> first | omega | trivial | assumption | (intro _ hrow; obtain ⟨_, _, rfl⟩ := List.mem_map.1 hrow; rfl) | (simp_all; done) | (simp_all; omega))))))
                      refine CallK.pg (fun _ => h31) ?_
                      simp only [push_cast, seval, v4, v5, decide_true, decide_false]
                      (repeat ((with_reducible refine And.intro ?_ ?_); (focus (first | omega | trivial | assumption | (intro _ hrow; obtain ⟨_, _, rfl⟩ := List.mem_map.1 hrow; rfl) | ((intros; repeat' apply And.intro) <;> first | omega | trivial | assumption | (intro _ hrow; obtain ⟨_, _, rfl⟩ := List.mem_map.1 hrow; rfl) | (simp_all; done) | (simp_all; omega))))))
                      refine hK _ ?_; clear hK; clear K
                      apply awp_cond; (focus (simp only [push_cast, seval]; rfl))
                      · intro h9
                        exact absurd h9 (by decide)
                      intro h9
                      clear h9
                      refine awp_skip ?_
                      refine awpF_region ?_; intro K hK; simp only [push_cast, seval]; (try simp (disch := omega) only [wrapI]); (repeat ((with_reducible refine And.intro ?_ ?_); (focus (first | omega | trivial | assumption | (intro _ hrow; obtain ⟨_, _, rfl⟩ := List.mem_map.1 hrow; rfl) | ((intros; repeat' apply And.intro) <;> first | omega | trivial | assumption | (intro _ hrow; obtain ⟨_, _, rfl⟩ := List.mem_map.1 hrow; rfl) | (simp_all; done) | (simp_all; omega)))))); refine hK _ ?_; clear hK; clear K
                      refine mid_end [0, 1] _ ⟨0, (hG2 hps).2, rfl⟩ ?_
                      exact ⟨by simp, by simp, by simp [push_cast, seval], by simp [push_cast, seval], by simp [push_cast, seval], by simp [push_cast, seval]⟩
                    · have v4 : (gd ≥ 0) = False := eq_false hge
                      refine awp_seq ?_
                      refine awp_seq ?_
                      refine awpF_region ?_; intro K hK; simp only [push_cast, seval, v4, decide_false]
                      (repeat ((with_reducible refine And.intro ?_ ?_); (focus (first | omega | trivial | assumption | (intro _ hrow; obtain ⟨_, _, rfl⟩ := List.mem_map.1 hrow; rfl) | ((intros; repeat' apply And.intro) <;> first | omega | trivial | assumption | (intro _ hrow; obtain ⟨_, _, rfl⟩ := List.mem_map.1 hrow; rfl) | (simp_all; done) | (simp_all; omega))))))
                      refine CallK.pg (fun _ => h31) ?_
                      simp only [push_cast, seval, v4, decide_false]
                      (repeat ((with_reducible refine And.intro ?_ ?_); (focus (first | omega | trivial | assumption | (intro _ hrow; obtain ⟨_, _, rfl⟩ := List.mem_map.1 hrow; rfl) | ((intros; repeat' apply And.intro) <;> first | omega | trivial | assumption | (intro _ hrow; obtain ⟨_, _, rfl⟩ := List.mem_map.1 hrow; rfl) | (simp_all; done) | (simp_all; omega))))))
                      refine hK _ ?_; clear hK; clear K
                      apply awp_cond; (focus (simp only [push_cast, seval]; rfl))
                      · intro h9
                        exact absurd h9 (by decide)
                      intro h9
                      clear h9
                      refine awp_skip ?_
                      refine awpF_region ?_; intro K hK; simp only [push_cast, seval]; (try simp (disch := omega) only [wrapI]); (repeat ((with_reducible refine And.intro ?_ ?_); (focus (first | omega | trivial | assumption | (intro _ hrow; obtain ⟨_, _, rfl⟩ := List.mem_map.1 hrow; rfl) | ((intros; repeat' apply And.intro) <;> first | omega | trivial | assumption | (intro _ hrow; obtain ⟨_, _, rfl⟩ := List.mem_map.1 hrow; rfl) | (simp_all; done) | (simp_all; omega)))))); refine hK _ ?_; clear hK; clear K
                      refine mid_end [0, 1] _ ⟨0, (hG2 hps).2, rfl⟩ ?_
                      exact ⟨by simp, by simp, by simp [push_cast, seval], by simp [push_cast, seval], by simp [push_cast, seval], by simp [push_cast, seval]⟩
                  · intro h9
                    exact absurd h9 (by decide)
                · have v3 : (y.st > (t : Int)) = False := eq_false hs
                  refine awp_seq ?_
                  refine awpF_region ?_; intro K hK; simp only [push_cast, seval, v3, decide_false, Bool.not_false]
                  (repeat ((with_reducible refine And.intro ?_ ?_); (focus (first | omega | trivial | assumption | (intro _ hrow; obtain ⟨_, _, rfl⟩ := List.mem_map.1 hrow; rfl) | ((intros; repeat' apply And.intro) <;> first | omega | trivial | assumption | (intro _ hrow; obtain ⟨_, _, rfl⟩ := List.mem_map.1 hrow; rfl) | (simp_all; done) | (simp_all; omega))))))
                  refine hK _ ?_; clear hK; clear K
                  apply awp_cond; (focus (simp only [push_cast, seval]; rfl))
                  · intro h9
                    have hps : (t : Int) < y.st ∨ y.ph = 2 := .inr (by simpa using h9)
                    clear h9
                    refine awp_seq ?_
                    refine awpF_region ?_; intro K hK; simp only [push_cast, seval, g2, Int.toNat_natCast]
                    repeat (with_reducible refine And.intro ?_ ?_; (focus (first | exact gl | omega)))
                    refine hK _ ?_; clear hK; clear K
                    by_cases hge : gd ≥ 0
                    · have v4 : (gd ≥ 0) = True := eq_true hge
                      have v5 : (gd < neededI 0 g.rn g.rd g.an g.ad) = False := eq_false (by have := (hG2 hps).1 hge; omega)
                      refine awp_seq ?_
                      refine awp_seq ?_
                      refine awpF_region ?_; intro K hK; simp only [push_cast, seval, v4, decide_true]
                      (repeat ((with_reducible refine And.intro ?_ ?_); (focus (first | omega | trivial | assumption | (intro _ hrow; obtain ⟨_, _, rfl⟩ := List.mem_map.1 hrow; rfl) | ((intros; repeat' apply And.intro) <;> first | omega | trivial | assumption | (intro _ hrow; obtain ⟨_, _, rfl⟩ := List.mem_map.1 hrow; rfl) | (simp_all; done) | (simp_all; omega))))))
                      refine CallK.pg (fun _ => h31) ?_
                      simp only [push_cast, seval, v4, v5, decide_true, decide_false]
                      (repeat ((with_reducible refine And.intro ?_ ?_); (focus (first | omega | trivial | assumption | (intro _ hrow; obtain ⟨_, _, rfl⟩ := List.mem_map.1 hrow; rfl) | ((intros; repeat' apply And.intro) <;> first | omega | trivial | assumption | (intro _ hrow; obtain ⟨_, _, rfl⟩ := List.mem_map.1 hrow; rfl) | (simp_all; done) | (simp_all; omega))))))
                      refine hK _ ?_; clear hK; clear K
                      apply awp_cond; (focus (simp only [push_cast, seval]; rfl))
                      · intro h9
                        exact absurd h9 (by decide)
                      intro h9
                      clear h9
                      refine awp_skip ?_
                      refine awpF_region ?_; intro K hK; simp only [push_cast, seval]; (try simp (disch := omega) only [wrapI]); (repeat ((with_reducible refine And.intro ?_ ?_); (focus (first | omega | trivial | assumption | (intro _ hrow; obtain ⟨_, _, rfl⟩ := List.mem_map.1 hrow; rfl) | ((intros; repeat' apply And.intro) <;> first | omega | trivial | assumption | (intro _ hrow; obtain ⟨_, _, rfl⟩ := List.mem_map.1 hrow; rfl) | (simp_all; done) | (simp_all; omega)))))); refine hK _ ?_; clear hK; clear K
                      refine mid_end [0, 1] _ ⟨0, (hG2 hps).2, rfl⟩ ?_
                      exact ⟨by simp, by simp, by simp [push_cast, seval], by simp [push_cast, seval], by simp [push_cast, seval], by simp [push_cast, seval]⟩
                    · have v4 : (gd ≥ 0) = False := eq_false hge
                      refine awp_seq ?_
                      refine awp_seq ?_
                      refine awpF_region ?_; intro K hK; simp only [push_cast, seval, v4, decide_false]
                      (repeat ((with_reducible refine And.intro ?_ ?_); (focus (first | omega | trivial | assumption | (intro _ hrow; obtain ⟨_, _, rfl⟩ := List.mem_map.1 hrow; rfl) | ((intros; repeat' apply And.intro) <;> first | omega | trivial | assumption | (intro _ hrow; obtain ⟨_, _, rfl⟩ := List.mem_map.1 hrow; rfl) | (simp_all; done) | (simp_all; omega))))))
                      refine CallK.pg (fun _ => h31) ?_
                      simp only [push_cast, seval, v4, decide_false]
                      (repeat ((with_reducible refine And.intro ?_ ?_); (focus (first | omega | trivial | assumption | (intro _ hrow; obtain ⟨_, _, rfl⟩ := List.mem_map.1 hrow; rfl) | ((intros; repeat' apply And.intro) <;> first | omega | trivial | assumption | (intro _ hrow; obtain ⟨_, _, rfl⟩ := List.mem_map.1 hrow; rfl) | (simp_all; done) | (simp_all; omega))))))
                      refine hK _ ?_; clear hK; clear K
                      apply awp_cond; (focus (simp only [push_cast, seval]; rfl))
                      · intro h9
                        exact absurd h9 (by decide)
                      intro h9
                      clear h9
                      refine awp_skip ?_
                      refine awpF_region ?_; intro K hK; simp only [push_cast, seval]; (try simp (disch := omega) only [wrapI]); (repeat ((with_reducible refine And.intro ?_ ?_); (focus (first | omega | trivial | assumption | (intro _ hrow; obtain ⟨_, _, rfl⟩ := List.mem_map.1 hrow; rfl) | ((intros; repeat' apply And.intro) <;> first | omega | trivial | assumption | (intro _ hrow; obtain ⟨_, _, rfl⟩ := List.mem_map.1 hrow; rfl) | (simp_all; done) | (simp_all; omega)))))); refine hK _ ?_; clear hK; clear K
                      refine mid_end [0, 1] _ ⟨0, (hG2 hps).2, rfl⟩ ?_
                      exact ⟨by simp, by simp, by simp [push_cast, seval], by simp [push_cast, seval], by simp [push_cast, seval], by simp [push_cast, seval]⟩
                  · intro h9
                    have hnp : ¬ ((t : Int) < y.st ∨ y.ph = 2) := by
                      rintro (h | h)
                      · exact hs h
                      · simp [h] at h9
                    refine awp_skip ?_
                    refine mid_end [0, 1] _ ⟨gd, hon hnp, rfl⟩ ?_
                    exact ⟨by simp, by simp, by simp [push_cast, seval], by simp [push_cast, seval], by simp [push_cast, seval], by simp [push_cast, seval]⟩
              · rintro _ ⟨g3, hg3, rfl⟩
                refine awpF_region ?_; intro K hK; simp only [push_cast, seval]; (try simp (disch := omega) only [wrapI]); (repeat ((with_reducible refine And.intro ?_ ?_); (focus (first | omega | trivial | assumption | (intro _ hrow; obtain ⟨_, _, rfl⟩ := List.mem_map.1 hrow; rfl) | ((intros; repeat' apply And.intro) <;> first | omega | trivial | assumption | (intro _ hrow; obtain ⟨_, _, rfl⟩ := List.mem_map.1 hrow; rfl) | (simp_all; done) | (simp_all; omega)))))); refine hK _ ?_; clear hK; clear K
                refine inblock_norm (mid_end [0] _ ⟨y, g3, ⟨hcy, by omega, hg3⟩, rfl⟩ ?_)
                exact ⟨by simp, by simp, by simp [push_cast, seval], by simp [push_cast, seval], by simp [push_cast, seval], by simp [push_cast, seval]⟩
          · have hrun : runC s = 10 := by unfold runC; rw [if_pos hc, if_neg hp]
            have hrep : repC s c = 10 := by unfold repC; rw [if_neg (by rw [hrun]; decide), hrun]
            rw [hrep, if_neg (by decide)] at h49
            unfold encS noSta at h49
            refine awp_seq ?_
            refine awpF_drawT (DT.op 0 (DT.op 1 (DT.op 2 (DT.op 3 (DT.op 4 (DT.op 5 (DT.or (DT.op 6 (DT.op 7 (DT.op 8 (DT.or (DT.op 9 (DT.op 10 (DT.op 11 (DT.op 12 DT.nil)))) (DT.op 10 (DT.or (DT.op 9 (DT.op 11 (DT.op 12 DT.nil))) (DT.op 11 (DT.op 9 (DT.op 12 DT.nil))))))))) (DT.op 10 (DT.op 6 (DT.op 7 (DT.op 8 (DT.or (DT.op 9 (DT.op 11 (DT.op 12 DT.nil))) (DT.op 11 (DT.op 9 (DT.op 12 DT.nil))))))))))))))) (by kernel_rfl) (by kernel_rfl) (by kernel_rfl) ?_; intro K hK; apply dt_close; (rotate_left; (intro fin; (focus (simp only [push_cast, seval, gf, Int.toNat_natCast]; (try simp (disch := omega) only [wrapI]); (repeat' (first | exact fin | (with_reducible refine And.intro ?_ ?_) | (refine CallK.pd (h49) ?_; simp only [push_cast, seval, gf, Int.toNat_natCast]; (try simp (disch := omega) only [wrapI])) | (refine CallK.pg (fun _ => h49) ?_; simp only [push_cast, seval, gf, Int.toNat_natCast]; (try simp (disch := omega) only [wrapI])) | first | omega | trivial | assumption | (intro _ hrow; obtain ⟨_, _, rfl⟩ := List.mem_map.1 hrow; rfl) | ((intros; repeat' apply And.intro) <;> first | omega | trivial | assumption | (intro _ hrow; obtain ⟨_, _, rfl⟩ := List.mem_map.1 hrow; rfl) | (simp_all; done) | (simp_all; omega)))))))); refine hK _ ?_; clear hK; clear K
            refine awp_seq ?_
            refine awp_seq ?_
            refine awpF_region ?_; intro K hK; simp only [push_cast, seval]; (try simp (disch := omega) only [wrapI]); (repeat ((with_reducible refine And.intro ?_ ?_); (focus (first | omega | trivial | assumption | (intro _ hrow; obtain ⟨_, _, rfl⟩ := List.mem_map.1 hrow; rfl) | ((intros; repeat' apply And.intro) <;> first | omega | trivial | assumption | (intro _ hrow; obtain ⟨_, _, rfl⟩ := List.mem_map.1 hrow; rfl) | (simp_all; done) | (simp_all; omega)))))); refine hK _ ?_; clear hK; clear K
            apply awp_cond; (focus (simp only [push_cast, seval]; rfl))
            · intro h8; (try simp only [decide_eq_true_eq, decide_eq_false_iff_not, Bool.not_eq_true', Bool.not_eq_false', Bool.and_eq_true, Bool.or_eq_true, Bool.not_eq_true] at h8)
              refine awp_seq ?_
              refine awp_seq ?_
              refine awpF_region ?_; intro K hK; simp only [push_cast, seval]; (try simp (disch := omega) only [wrapI]); (repeat ((with_reducible refine And.intro ?_ ?_); (focus (first | omega | trivial | assumption | (intro _ hrow; obtain ⟨_, _, rfl⟩ := List.mem_map.1 hrow; rfl) | ((intros; repeat' apply And.intro) <;> first | omega | trivial | assumption | (intro _ hrow; obtain ⟨_, _, rfl⟩ := List.mem_map.1 hrow; rfl) | (simp_all; done) | (simp_all; omega)))))); refine hK _ ?_; clear hK; clear K
              apply awp_cond; (focus (simp only [push_cast, seval]; rfl))
              · intro h9
                exact absurd h9 (by decide)
              · intro h9; (try simp only [decide_eq_true_eq, decide_eq_false_iff_not, Bool.not_eq_true', Bool.not_eq_false', Bool.and_eq_true, Bool.or_eq_true, Bool.not_eq_true] at h9)
                refine awp_skip ?_
                refine awp_exit ?_; (repeat (first | refine then_exit ?_ | refine inblock_other (by decide) ?_)); refine inblock_same ?_
                refine mid_end [0] _ ⟨s, good, ⟨hc, by omega, hG⟩, rfl⟩ ?_
                exact ⟨by simp, by simp, by simp [push_cast, seval], by simp [push_cast, seval], by simp [push_cast, seval], by simp [push_cast, seval]⟩
            · intro h8; (try simp only [decide_eq_true_eq, decide_eq_false_iff_not, Bool.not_eq_true', Bool.not_eq_false', Bool.and_eq_true, Bool.or_eq_true, Bool.not_eq_true] at h8)
              exact absurd (by simpa using h8) hp
      · rintro _ ⟨s2, g2, hS2, rfl⟩
        have wi : IntKind.i64.wrap ((i : Int) + 1) = (i : Int) + 1 := wrapI _ (by omega)
        refine awpF_region ?_; intro K hK; simp only [push_cast, seval, wi]; (try simp (disch := omega) only [wrapI]); (repeat ((with_reducible refine And.intro ?_ ?_); (focus (first | omega | trivial | assumption | (intro _ hrow; obtain ⟨_, _, rfl⟩ := List.mem_map.1 hrow; rfl) | ((intros; repeat' apply And.intro) <;> first | omega | trivial | assumption | (intro _ hrow; obtain ⟨_, _, rfl⟩ := List.mem_map.1 hrow; rfl) | (simp_all; done) | (simp_all; omega)))))); refine hK _ ?_; clear hK; clear K
        refine round_endG (s2, g2, i + 1) [0] ⟨by show fs.length - (i + 1) < fs.length - i; omega, ⟨by show i + 1 ≤ fs.length; omega, hS2⟩, ?_⟩
        exact ⟨by simp, by simp, by simp [push_cast, seval], by simp [push_cast, seval], by simp [push_cast, seval], by simp [push_cast, seval]⟩
    · intro h3; (try simp only [decide_eq_true_eq, decide_eq_false_iff_not, Bool.not_eq_true', Bool.not_eq_false', Bool.and_eq_true, Bool.or_eq_true, Bool.not_eq_true] at h3)
      refine awp_exit ?_; (repeat (first | refine then_exit ?_ | refine inblock_other (by decide) ?_)); refine inblock_same ?_
      refine awp_seq ?_
      refine awpF_region ?_; intro K hK; simp only [push_cast, seval]
      refine CallK.pd (h19) ?_; simp only [push_cast, seval]; (try simp (disch := omega) only [wrapI]); (repeat ((with_reducible refine And.intro ?_ ?_); (focus (first | omega | trivial | assumption | (intro _ hrow; obtain ⟨_, _, rfl⟩ := List.mem_map.1 hrow; rfl) | ((intros; repeat' apply And.intro) <;> first | omega | trivial | assumption | (intro _ hrow; obtain ⟨_, _, rfl⟩ := List.mem_map.1 hrow; rfl) | (simp_all; done) | (simp_all; omega))))))
      refine hK _ ?_; clear hK; clear K
      refine awp_ret ?_; (repeat (first | refine then_ret ?_ | refine inblock_ret ?_)); refine fin_of (by simp only [push_cast, seval]; first | done | rfl) (by first | trivial | first | omega | trivial | assumption | (intro _ hrow; obtain ⟨_, _, rfl⟩ := List.mem_map.1 hrow; rfl) | ((intros; repeat' apply And.intro) <;> first | omega | trivial | assumption | (intro _ hrow; obtain ⟨_, _, rfl⟩ := List.mem_map.1 hrow; rfl) | (simp_all; done) | (simp_all; omega))) ?_
      rfl
theorem fit_bools {x : D} (h : FitA (.sl .bool) x) : ∃ l : List Bool, x = .sl (l.map encT) ∧ l.length ≤ maxLen := by
  obtain ⟨rows, h1, h2, h3⟩ := fits_sl h
  simp at h1
  subst h1
  obtain ⟨l, rfl⟩ := rows_map (f := encT) fun row hr => fits_bool (h3 row hr)
  exact ⟨l, rfl, by simpa using h2⟩
end Go.Aw
