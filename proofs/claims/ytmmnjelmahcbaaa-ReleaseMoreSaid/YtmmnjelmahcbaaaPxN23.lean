/-
  The statement about what holds with fewer failures, a greater rate, a greater error. No condition.
-/
import Derived.Test.YtmmnjelmahcbaaaPxN22
import Derived.Test.YtmmnjelmahcbaaaPkD
namespace Go.Aw
set_option linter.unusedSimpArgs false
set_option linter.unusedVariables false
open Go.RowKit Go.Proofs Go.Nt Go.Rl

set_option maxRecDepth 20000 in
set_option maxHeartbeats 4000000 in
theorem p9 (n k a1 b1 a2 b2 a3 b3 a4 b4 den : Int) : PD Try.prog 9 [.int .i64 n, .int .i64 k, .agg [.int .i64 a1, .int .i64 b1], .agg [.int .i64 a2, .int .i64 b2], .agg [.int .i64 a3, .int .i64 b3], .agg [.int .i64 a4, .int .i64 b4], .int .i64 den] (.d (.bool true)) := by
  have c1 := modI_bounds (n := n) (m := 31) (by decide)
  obtain ⟨N, hN⟩ : ∃ x, modI n 31 = x := ⟨_, rfl⟩
  rw [hN] at c1
  have c2 := modI_bounds (n := k) (m := N + 1) (by omega)
  have h20a := p20 n 31 (by decide) (by decide)
  rw [hN] at h20a
  have h20b := p20 k (N + 1) (by omega) (by omega)
  have w1 : IntKind.i64.wrap (N + 1) = N + 1 := wrapI _ (by omega)
  generalize modI k (N + 1) = M at c2 h20b
  have h22r := p22 a1 b1
  have h22s := p22 a2 b2
  have h22a := p22 a3 b3
  have h22b := p22 a4 b4
  have hr := made_rate a1 b1
  have hs := made_rate a2 b2
  have ha := made_rate a3 b3
  have hb := made_rate a4 b4
  generalize madeN a1 b1 = rn at h22r hr
  generalize madeD b1 = rd at h22r hr
  generalize madeN a2 b2 = sn at h22s hs
  generalize madeD b2 = sd at h22s hs
  generalize madeN a3 b3 = an at h22a ha
  generalize madeD b3 = ad at h22a ha
  generalize madeN a4 b4 = bn at h22b hb
  generalize madeD b4 = bd at h22b hb
  refine pd_of (fn := Try.f9) [.tmp 14] (by kernel_rfl) rfl (by kernel_rfl) (Nat.le_of_ble_eq_true rfl) (by kernel_rfl) rfl rfl ?_
  refine awp_seq ?_
  refine awpF_region ?_; intro K hK; simp only [push_cast, seval]; (try simp (disch := omega) only [wrapI]); (repeat ((with_reducible refine And.intro ?_ ?_); (focus (first | omega | trivial | assumption | (intro _ hrow; obtain ⟨_, _, rfl⟩ := List.mem_map.1 hrow; rfl) | ((intros; repeat' apply And.intro) <;> first | omega | trivial | assumption | (intro _ hrow; obtain ⟨_, _, rfl⟩ := List.mem_map.1 hrow; rfl) | (simp_all; done) | (simp_all; omega)))))); refine hK _ ?_; clear hK; clear K
  refine awp_seq ?_
  refine awpF_region ?_; intro K hK; simp only [push_cast, seval]
  refine CallK.pd (h20a) ?_; simp only [push_cast, seval]; (try simp (disch := omega) only [wrapI]); (repeat ((with_reducible refine And.intro ?_ ?_); (focus (first | omega | trivial | assumption | (intro _ hrow; obtain ⟨_, _, rfl⟩ := List.mem_map.1 hrow; rfl) | ((intros; repeat' apply And.intro) <;> first | omega | trivial | assumption | (intro _ hrow; obtain ⟨_, _, rfl⟩ := List.mem_map.1 hrow; rfl) | (simp_all; done) | (simp_all; omega))))))
  refine hK _ ?_; clear hK; clear K
  refine awp_seq ?_
  refine awpF_region ?_; intro K hK; simp only [push_cast, seval, w1]
  refine CallK.pd (h20b) ?_; simp only [push_cast, seval]; (try simp (disch := omega) only [wrapI]); (repeat ((with_reducible refine And.intro ?_ ?_); (focus (first | omega | trivial | assumption | (intro _ hrow; obtain ⟨_, _, rfl⟩ := List.mem_map.1 hrow; rfl) | ((intros; repeat' apply And.intro) <;> first | omega | trivial | assumption | (intro _ hrow; obtain ⟨_, _, rfl⟩ := List.mem_map.1 hrow; rfl) | (simp_all; done) | (simp_all; omega))))))
  refine hK _ ?_; clear hK; clear K
  refine awp_seq ?_
  refine awpF_drawP [0, 2, 4, 6] [1, 3, 5, 7, 8, 9, 10, 11] (DT.op 12 (DT.op 13 (DT.op 14 (DT.op 15 DT.nil)))) (by kernel_rfl) (by kernel_rfl) (by kernel_rfl) ?_; intro K hK; simp only [push_cast, seval, w1]; (repeat ((with_reducible refine And.intro ?_ ?_); (focus (first | omega | trivial | assumption | (intro _ hrow; obtain ⟨_, _, rfl⟩ := List.mem_map.1 hrow; rfl) | ((intros; repeat' apply And.intro) <;> first | omega | trivial | assumption | (intro _ hrow; obtain ⟨_, _, rfl⟩ := List.mem_map.1 hrow; rfl) | (simp_all; done) | (simp_all; omega)))))); refine ParK.pd (h22r) (by first | rfl | simp [V.bel, V.belL]) ?_; simp only [push_cast, seval, w1]; (try simp (disch := omega) only [wrapI]); (repeat ((with_reducible refine And.intro ?_ ?_); (focus (first | omega | trivial | assumption | (intro _ hrow; obtain ⟨_, _, rfl⟩ := List.mem_map.1 hrow; rfl) | ((intros; repeat' apply And.intro) <;> first | omega | trivial | assumption | (intro _ hrow; obtain ⟨_, _, rfl⟩ := List.mem_map.1 hrow; rfl) | (simp_all; done) | (simp_all; omega)))))); refine ParK.pd (h22s) (by first | rfl | simp [V.bel, V.belL]) ?_; simp only [push_cast, seval, w1]; (try simp (disch := omega) only [wrapI]); (repeat ((with_reducible refine And.intro ?_ ?_); (focus (first | omega | trivial | assumption | (intro _ hrow; obtain ⟨_, _, rfl⟩ := List.mem_map.1 hrow; rfl) | ((intros; repeat' apply And.intro) <;> first | omega | trivial | assumption | (intro _ hrow; obtain ⟨_, _, rfl⟩ := List.mem_map.1 hrow; rfl) | (simp_all; done) | (simp_all; omega)))))); refine ParK.pd (h22a) (by first | rfl | simp [V.bel, V.belL]) ?_; simp only [push_cast, seval, w1]; (try simp (disch := omega) only [wrapI]); (repeat ((with_reducible refine And.intro ?_ ?_); (focus (first | omega | trivial | assumption | (intro _ hrow; obtain ⟨_, _, rfl⟩ := List.mem_map.1 hrow; rfl) | ((intros; repeat' apply And.intro) <;> first | omega | trivial | assumption | (intro _ hrow; obtain ⟨_, _, rfl⟩ := List.mem_map.1 hrow; rfl) | (simp_all; done) | (simp_all; omega)))))); refine ParK.pd (h22b) (by first | rfl | simp [V.bel, V.belL]) ?_; simp only [push_cast, seval, w1]; (try simp (disch := omega) only [wrapI]); (repeat ((with_reducible refine And.intro ?_ ?_); (focus (first | omega | trivial | assumption | (intro _ hrow; obtain ⟨_, _, rfl⟩ := List.mem_map.1 hrow; rfl) | ((intros; repeat' apply And.intro) <;> first | omega | trivial | assumption | (intro _ hrow; obtain ⟨_, _, rfl⟩ := List.mem_map.1 hrow; rfl) | (simp_all; done) | (simp_all; omega)))))); refine hK _ ?_; clear hK; clear K
  obtain ⟨x1, x2, x3, x4⟩ := rateB_iff.1 hr
  obtain ⟨y1, y2, y3, y4⟩ := rateB_iff.1 ha
  obtain ⟨z1, z2, z3, z4⟩ := rateB_iff.1 hb
  obtain ⟨u1, u2, u3, u4⟩ := rateB_iff.1 hs
  have mb : ∀ x y : Int, 0 ≤ x → x ≤ 1000 → 0 ≤ y → y ≤ 1000 → 0 ≤ x * y ∧ x * y ≤ 1000000 := fun x y h1 h2 h3 h4 =>
    ⟨Int.mul_nonneg h1 h3, Int.le_trans (Int.mul_le_mul h2 h4 h3 (by omega)) (by decide)⟩
  have s1 := mb sn rd (by omega) (by omega) (by omega) (by omega)
  have s2 := mb rn sd (by omega) (by omega) (by omega) (by omega)
  have s3 := mb bn ad (by omega) (by omega) (by omega) (by omega)
  have s4 := mb an bd (by omega) (by omega) (by omega) (by omega)
  have v1 : IntKind.i64.wrap (sn * rd) = sn * rd := wrapI _ (by omega)
  have v2 : IntKind.i64.wrap (rn * sd) = rn * sd := wrapI _ (by omega)
  have v3 : IntKind.i64.wrap (bn * ad) = bn * ad := wrapI _ (by omega)
  have v4 : IntKind.i64.wrap (an * bd) = an * bd := wrapI _ (by omega)
  refine awp_mid (fun u => ∃ xn xd yn yd : Int, rateB xn xd = true ∧ rateB yn yd = true ∧ xn * yd ≤ yn * xd ∧ u = ⟨[(0, .d (.int .i64 N)), (1, .d (.int .i64 M)), (6, .d (.int .i64 den)), (15, .ptr 0 0 0), (16, .ptr 1 0 0), (17, .ptr 2 0 0), (18, .ptr 3 0 0)], [.cells [.d (.int .i64 xn), .d (.int .i64 xd)], .cells [.d (.int .i64 yn), .d (.int .i64 yd)], .cells [.d (.int .i64 an), .d (.int .i64 ad)], .cells [.d (.int .i64 bn), .d (.int .i64 bd)]]⟩) ?_ ?_
  · refine awp_seq ?_
    refine awpF_region ?_; intro K hK; simp only [push_cast, seval, v1, v2]; (try simp (disch := omega) only [wrapI]); (repeat ((with_reducible refine And.intro ?_ ?_); (focus (first | omega | trivial | assumption | (intro _ hrow; obtain ⟨_, _, rfl⟩ := List.mem_map.1 hrow; rfl) | ((intros; repeat' apply And.intro) <;> first | omega | trivial | assumption | (intro _ hrow; obtain ⟨_, _, rfl⟩ := List.mem_map.1 hrow; rfl) | (simp_all; done) | (simp_all; omega)))))); refine hK _ ?_; clear hK; clear K
    apply awp_cond; (focus (simp only [push_cast, seval]; rfl))
    · intro h1; (try simp only [decide_eq_true_eq, decide_eq_false_iff_not, Bool.not_eq_true', Bool.not_eq_false', Bool.and_eq_true, Bool.or_eq_true, Bool.not_eq_true] at h1)
      refine awpF_region ?_; intro K hK; simp only [push_cast, seval]; (try simp (disch := omega) only [wrapI]); (repeat ((with_reducible refine And.intro ?_ ?_); (focus (first | omega | trivial | assumption | (intro _ hrow; obtain ⟨_, _, rfl⟩ := List.mem_map.1 hrow; rfl) | ((intros; repeat' apply And.intro) <;> first | omega | trivial | assumption | (intro _ hrow; obtain ⟨_, _, rfl⟩ := List.mem_map.1 hrow; rfl) | (simp_all; done) | (simp_all; omega)))))); refine hK _ ?_; clear hK; clear K
      refine mid_end [4, 5, 6, 7] _ ⟨sn, sd, rn, rd, hs, hr, by omega, rfl⟩ ?_
      exact ⟨by simp, by simp, by simp [push_cast, seval], by simp [push_cast, seval], by simp [push_cast, seval], by simp [push_cast, seval]⟩
    · intro h1; (try simp only [decide_eq_true_eq, decide_eq_false_iff_not, Bool.not_eq_true', Bool.not_eq_false', Bool.and_eq_true, Bool.or_eq_true, Bool.not_eq_true] at h1)
      refine awp_skip ?_
      refine mid_end [4, 5, 6, 7] _ ⟨rn, rd, sn, sd, hr, hs, by omega, rfl⟩ ?_
      exact ⟨by simp, by simp, by simp [push_cast, seval], by simp [push_cast, seval], by simp [push_cast, seval], by simp [push_cast, seval]⟩
  clear s1 s2 v1 v2 x1 x2 x3 x4 u1 u2 u3 u4 hr hs
  clear h22r h22s
  rintro _ ⟨rn, rd, sn, sd, hr, hs, hrs, rfl⟩
  refine awp_mid (fun u => ∃ xn xd yn yd : Int, rateB xn xd = true ∧ rateB yn yd = true ∧ xn * yd ≤ yn * xd ∧ u = ⟨[(0, .d (.int .i64 N)), (1, .d (.int .i64 M)), (6, .d (.int .i64 den)), (15, .ptr 0 0 0), (16, .ptr 1 0 0), (17, .ptr 2 0 0), (18, .ptr 3 0 0)], [.cells [.d (.int .i64 rn), .d (.int .i64 rd)], .cells [.d (.int .i64 sn), .d (.int .i64 sd)], .cells [.d (.int .i64 xn), .d (.int .i64 xd)], .cells [.d (.int .i64 yn), .d (.int .i64 yd)]]⟩) ?_ ?_
  · refine awp_seq ?_
    refine awpF_region ?_; intro K hK; simp only [push_cast, seval, v3, v4]; (try simp (disch := omega) only [wrapI]); (repeat ((with_reducible refine And.intro ?_ ?_); (focus (first | omega | trivial | assumption | (intro _ hrow; obtain ⟨_, _, rfl⟩ := List.mem_map.1 hrow; rfl) | ((intros; repeat' apply And.intro) <;> first | omega | trivial | assumption | (intro _ hrow; obtain ⟨_, _, rfl⟩ := List.mem_map.1 hrow; rfl) | (simp_all; done) | (simp_all; omega)))))); refine hK _ ?_; clear hK; clear K
    apply awp_cond; (focus (simp only [push_cast, seval]; rfl))
    · intro h1; (try simp only [decide_eq_true_eq, decide_eq_false_iff_not, Bool.not_eq_true', Bool.not_eq_false', Bool.and_eq_true, Bool.or_eq_true, Bool.not_eq_true] at h1)
      refine awpF_region ?_; intro K hK; simp only [push_cast, seval]; (try simp (disch := omega) only [wrapI]); (repeat ((with_reducible refine And.intro ?_ ?_); (focus (first | omega | trivial | assumption | (intro _ hrow; obtain ⟨_, _, rfl⟩ := List.mem_map.1 hrow; rfl) | ((intros; repeat' apply And.intro) <;> first | omega | trivial | assumption | (intro _ hrow; obtain ⟨_, _, rfl⟩ := List.mem_map.1 hrow; rfl) | (simp_all; done) | (simp_all; omega)))))); refine hK _ ?_; clear hK; clear K
      refine mid_end [0, 1, 2, 3] _ ⟨bn, bd, an, ad, hb, ha, by omega, rfl⟩ ?_
      exact ⟨by simp, by simp, by simp [push_cast, seval], by simp [push_cast, seval], by simp [push_cast, seval], by simp [push_cast, seval]⟩
    · intro h1; (try simp only [decide_eq_true_eq, decide_eq_false_iff_not, Bool.not_eq_true', Bool.not_eq_false', Bool.and_eq_true, Bool.or_eq_true, Bool.not_eq_true] at h1)
      refine awp_skip ?_
      refine mid_end [0, 1, 2, 3] _ ⟨an, ad, bn, bd, ha, hb, by omega, rfl⟩ ?_
      exact ⟨by simp, by simp, by simp [push_cast, seval], by simp [push_cast, seval], by simp [push_cast, seval], by simp [push_cast, seval]⟩
  clear s3 s4 v3 v4 y1 y2 y3 y4 z1 z2 z3 z4 ha hb mb
  clear h22a h22b
  rintro _ ⟨an, ad, bn, bd, ha, hb, hab, rfl⟩
  have law := more_law (N := N) (K := M) hs hb hrs hab
  have wk : IntKind.i64.wrap (M - 1) = M - 1 := wrapI _ (by omega)
  refine awp_mid (fun u => u = ⟨[(0, .d (.int .i64 N)), (1, .d (.int .i64 M)), (6, .d (.int .i64 den)), (15, .ptr 0 0 0), (17, .ptr 1 0 0)], [.cells [.d (.int .i64 rn), .d (.int .i64 rd)], .cells [.d (.int .i64 an), .d (.int .i64 ad)]]⟩) ?_ ?_
  · have c0 := p23 N M rn rd an ad
    have c1 := p23 N (M - 1) rn rd an ad
    have c2 := p23 N M sn sd an ad
    have c3 := p23 N M rn rd bn bd
    generalize holdsB N M rn rd an ad = l0 at law c0
    generalize holdsB N (M - 1) rn rd an ad = l1 at law c1
    generalize holdsB N M sn sd an ad = l2 at law c2
    generalize holdsB N M rn rd bn bd = l3 at law c3
    obtain ⟨kp, hkp⟩ : ∃ b, decide (M > 0) = b := ⟨_, rfl⟩
    have hkp2 : kp = true → M > 0 := fun h => of_decide_eq_true (hkp.trans h)
    replace law : l0 = true → (kp = true → l1 = true) ∧ l2 = true ∧ l3 = true := fun h => ⟨fun h2 => (law h).1 (hkp2 h2), (law h).2⟩
    clear hkp2
    refine awp_seq ?_
    refine awpF_region ?_; intro K hK; simp only [push_cast, seval, wk, hkp]
    refine CallK.pd c0 ?_
    simp only [push_cast, seval, wk, hkp]
    (repeat ((with_reducible refine And.intro ?_ ?_); (focus ((cases l0 <;> cases kp <;> (simp; done)))))); refine CallK.pg (fun _ => c1) ?_; simp only [push_cast, seval]; (try simp (disch := omega) only [wrapI])
    (repeat ((with_reducible refine And.intro ?_ ?_); (focus ((cases l0 <;> cases kp <;> cases l1 <;> (simp; done)))))); refine CallK.pg (fun _ => c2) ?_; simp only [push_cast, seval]; (try simp (disch := omega) only [wrapI])
    (repeat ((with_reducible refine And.intro ?_ ?_); (focus ((cases l0 <;> cases kp <;> cases l1 <;> cases l2 <;> (simp; done)))))); refine CallK.pg (fun _ => c3) ?_; simp only [push_cast, seval]; (try simp (disch := omega) only [wrapI])
    (repeat ((with_reducible refine And.intro ?_ ?_); (focus ((cases l0 <;> cases kp <;> cases l1 <;> cases l2 <;> cases l3 <;> (simp; done))))))
    refine hK _ ?_; clear hK; clear K
    apply awp_cond; (focus (simp only [push_cast, seval]; rfl))
    · intro h1
      exfalso
      revert h1 law
      cases l0 <;> cases kp <;> cases l1 <;> cases l2 <;> cases l3 <;> simp
    intro h1
    refine awp_skip ?_
    refine mid_end [0, 2] _ rfl ?_
    exact ⟨by simp, by simp, by simp [push_cast, seval], by simp [push_cast, seval], by simp [push_cast, seval], by simp [push_cast, seval]⟩
  rintro _ rfl
  clear law hs hb hrs hab wk
  have c3 := modI_bounds (n := den) (m := 40) (by decide)
  have h21 := p21 den 40 (by decide) (by decide)
  obtain ⟨D, hD⟩ : ∃ x, 1 + modI den 40 = x := ⟨_, rfl⟩
  have wd : IntKind.i64.wrap (1 + modI den 40) = D := (wrapI _ (by omega)).trans hD
  refine awp_seq ?_
  refine awpF_region ?_; intro K hK; simp only [push_cast, seval]
  refine CallK.pd h21 ?_
  simp only [push_cast, seval, wd]
  refine hK _ ?_; clear hK; clear K
  have hup := up_spec N M an ad D
  have h33 := p33 N M an ad D
  generalize upperI N M an ad D = u at hup h33
  have hu : -1 ≤ u ∧ u ≤ D := by rcases hup with ⟨rfl, _⟩ | ⟨_, _, h1, h2, _⟩ <;> omega
  have wu : IntKind.i64.wrap (u - 1) = u - 1 := wrapI _ (by omega)
  refine awp_seq ?_
  refine awpF_region ?_; intro K hK; simp only [push_cast, seval]
  refine CallK.pd (h33) ?_; simp only [push_cast, seval]; (try simp (disch := omega) only [wrapI]); (repeat ((with_reducible refine And.intro ?_ ?_); (focus (first | omega | trivial | assumption | (intro _ hrow; obtain ⟨_, _, rfl⟩ := List.mem_map.1 hrow; rfl) | ((intros; repeat' apply And.intro) <;> first | omega | trivial | assumption | (intro _ hrow; obtain ⟨_, _, rfl⟩ := List.mem_map.1 hrow; rfl) | (simp_all; done) | (simp_all; omega))))))
  refine hK _ ?_; clear hK; clear K
  refine awp_mid (fun s => s = ⟨[(0, .d (.int .i64 N)), (1, .d (.int .i64 M)), (6, .d (.int .i64 D)), (15, .ptr 0 0 0), (17, .ptr 1 0 0), (19, .d (.int .i64 u))], [.cells [.d (.int .i64 rn), .d (.int .i64 rd)], .cells [.d (.int .i64 an), .d (.int .i64 ad)]]⟩) ?_ ?_
  · have c0 := p23 N M u D an ad
    have c1 := p23 N M (u - 1) D an ad
    have c2 := p23 N M D D an ad
    have law : (u ≥ 0 → holdsB N M u D an ad = true) ∧ (u > 0 → holdsB N M (u - 1) D an ad = false) ∧ (u < 0 → holdsB N M D D an ad = false) := by
      rcases hup with ⟨rfl, h⟩ | ⟨h1, h2, h3, h4, h5, h6⟩
      · exact ⟨fun h => by omega, fun h => by omega, fun _ => h (by omega) (by omega)⟩
      · exact ⟨fun _ => h5, fun h => h6 h, fun h => by omega⟩
    generalize holdsB N M u D an ad = l0 at law c0
    generalize holdsB N M (u - 1) D an ad = l1 at law c1
    generalize holdsB N M D D an ad = l2 at law c2
    obtain ⟨q0, hq0⟩ : ∃ b, decide (u ≥ 0) = b := ⟨_, rfl⟩
    obtain ⟨q1, hq1⟩ : ∃ b, decide (u > 0) = b := ⟨_, rfl⟩
    obtain ⟨q2, hq2⟩ : ∃ b, decide (u < 0) = b := ⟨_, rfl⟩
    have f1 : (u < -1) = False := eq_false (by omega)
    have f2 : (u > D) = False := eq_false (by omega)
    replace law : (q0 = true → l0 = true) ∧ (q1 = true → l1 = false) ∧ (q2 = true → l2 = false) := ⟨fun h => law.1 (of_decide_eq_true (hq0.trans h)), fun h => law.2.1 (of_decide_eq_true (hq1.trans h)), fun h => law.2.2 (of_decide_eq_true (hq2.trans h))⟩
    refine awp_seq ?_
    refine awpF_draw [0,1,2,3,4,5,6,7,8,9,10,11,12,13,14,16,15,17,18,19,20,21,22,23,24,25,26,27,28,29,31,30,32,33,34,35,36,37,38,39,40,41,42,44,43,45,46,47] (by kernel_rfl) (by kernel_rfl) rfl ?_; intro K hK; simp only [push_cast, seval, wu, f1, f2, hq0, hq1, hq2]
    (repeat ((with_reducible refine And.intro ?_ ?_); (focus ((cases q0 <;> (simp; done)))))); refine CallK.pg (fun _ => p24 u D) ?_; simp only [push_cast, seval, wu, f1, f2, hq0, hq1, hq2]; (try simp (disch := omega) only [wrapI])
    (repeat ((with_reducible refine And.intro ?_ ?_); (focus ((cases q0 <;> (simp; done)))))); refine CallK.pg (fun _ => c0) ?_; simp only [push_cast, seval, wu, f1, f2, hq0, hq1, hq2]; (try simp (disch := omega) only [wrapI])
    (repeat ((with_reducible refine And.intro ?_ ?_); (focus ((cases q0 <;> cases q1 <;> cases l0 <;> (simp; done)))))); refine CallK.pg (fun _ => p24 (u - 1) D) ?_; simp only [push_cast, seval, wu, f1, f2, hq0, hq1, hq2]; (try simp (disch := omega) only [wrapI])
    (repeat ((with_reducible refine And.intro ?_ ?_); (focus ((cases q0 <;> cases q1 <;> cases l0 <;> (simp; done)))))); refine CallK.pg (fun _ => c1) ?_; simp only [push_cast, seval, wu, f1, f2, hq0, hq1, hq2]; (try simp (disch := omega) only [wrapI])
    (repeat ((with_reducible refine And.intro ?_ ?_); (focus ((cases q0 <;> cases q1 <;> cases q2 <;> cases l0 <;> cases l1 <;> (simp; done)))))); refine CallK.pg (fun _ => p24 D D) ?_; simp only [push_cast, seval, wu, f1, f2, hq0, hq1, hq2]; (try simp (disch := omega) only [wrapI])
    (repeat ((with_reducible refine And.intro ?_ ?_); (focus ((cases q0 <;> cases q1 <;> cases q2 <;> cases l0 <;> cases l1 <;> (simp; done)))))); refine CallK.pg (fun _ => c2) ?_; simp only [push_cast, seval, wu, f1, f2, hq0, hq1, hq2]; (try simp (disch := omega) only [wrapI])
    (repeat ((with_reducible refine And.intro ?_ ?_); (focus ((cases q0 <;> cases q1 <;> cases q2 <;> cases l0 <;> cases l1 <;> cases l2 <;> (simp; done))))))
    refine hK _ ?_; clear hK; clear K
    apply awp_cond; (focus (simp only [push_cast, seval]; rfl))
    · intro h1
      exfalso
      revert h1 law
      clear hq0 hq1 hq2
      cases q0 <;> cases q1 <;> cases q2 <;> cases l0 <;> cases l1 <;> cases l2 <;> simp
    intro h1
    refine awp_skip ?_
    refine mid_end [0, 1] _ rfl ?_
    exact ⟨by simp, by simp, by simp [push_cast, seval], by simp [push_cast, seval], by simp [push_cast, seval], by simp [push_cast, seval]⟩
  rintro _ rfl
  have hfew : 0 < M → 0 ≤ u → 0 ≤ upperI N (M - 1) an ad D ∧ upperI N (M - 1) an ad D ≤ u := fun h1 h2 => up_fewer h1 hup (up_spec N (M - 1) an ad D) h2
  refine awp_mid (fun s => s = ⟨[(1, .d (.int .i64 M)), (15, .ptr 0 0 0), (17, .ptr 1 0 0)], [.cells [.d (.int .i64 rn), .d (.int .i64 rd)], .cells [.d (.int .i64 an), .d (.int .i64 ad)]]⟩) ?_ ?_
  · refine awp_seq ?_
    refine awpF_region ?_; intro K hK; simp only [push_cast, seval]; (try simp (disch := omega) only [wrapI]); (repeat ((with_reducible refine And.intro ?_ ?_); (focus (first | omega | trivial | assumption | (intro _ hrow; obtain ⟨_, _, rfl⟩ := List.mem_map.1 hrow; rfl) | ((intros; repeat' apply And.intro) <;> first | omega | trivial | assumption | (intro _ hrow; obtain ⟨_, _, rfl⟩ := List.mem_map.1 hrow; rfl) | (simp_all; done) | (simp_all; omega)))))); refine hK _ ?_; clear hK; clear K
    apply awp_cond; (focus (simp only [push_cast, seval]; rfl))
    · intro h1; (try simp only [decide_eq_true_eq, decide_eq_false_iff_not, Bool.not_eq_true', Bool.not_eq_false', Bool.and_eq_true, Bool.or_eq_true, Bool.not_eq_true] at h1)
      have h33 := p33 N (M - 1) an ad D
      have wm : IntKind.i64.wrap (M - 1) = M - 1 := wrapI _ (by omega)
      replace hfew := hfew (by omega)
      generalize upperI N (M - 1) an ad D = w at hfew h33
      refine awp_seq ?_
      refine awpF_region ?_; intro K hK; simp only [push_cast, seval, wm]
      refine CallK.pd (h33) ?_; simp only [push_cast, seval]; (try simp (disch := omega) only [wrapI]); (repeat ((with_reducible refine And.intro ?_ ?_); (focus (first | omega | trivial | assumption | (intro _ hrow; obtain ⟨_, _, rfl⟩ := List.mem_map.1 hrow; rfl) | ((intros; repeat' apply And.intro) <;> first | omega | trivial | assumption | (intro _ hrow; obtain ⟨_, _, rfl⟩ := List.mem_map.1 hrow; rfl) | (simp_all; done) | (simp_all; omega))))))
      refine hK _ ?_; clear hK; clear K
      have hcond : (bif decide (u ≥ 0) then (bif decide (w < 0) then true else decide (w > u)) else false) = false := by
        by_cases h0 : u ≥ 0
        · obtain ⟨h2, h3⟩ := hfew h0
          have e1 : ¬ w < 0 := by omega
          have e2 : ¬ w > u := by omega
          simp only [h0, e1, e2, decide_true, decide_false, cond_true, cond_false]
        · simp only [h0, decide_false, cond_false]
      refine awp_seq ?_
      refine awpF_region ?_; intro K hK; simp only [push_cast, seval, hcond]; (try simp (disch := omega) only [wrapI]); (repeat ((with_reducible refine And.intro ?_ ?_); (focus (first | omega | trivial | assumption | (intro _ hrow; obtain ⟨_, _, rfl⟩ := List.mem_map.1 hrow; rfl) | ((intros; repeat' apply And.intro) <;> first | omega | trivial | assumption | (intro _ hrow; obtain ⟨_, _, rfl⟩ := List.mem_map.1 hrow; rfl) | (simp_all; done) | (simp_all; omega)))))); refine hK _ ?_; clear hK; clear K
      apply awp_cond; (focus (simp only [push_cast, seval]; rfl))
      · intro h2
        exfalso
        first | (rw [hcond] at h2; cases h2) | cases h2
      intro h2
      refine awp_skip ?_
      refine mid_end [0, 1] _ rfl ?_
      exact ⟨by simp, by simp, by simp [push_cast, seval], by simp [push_cast, seval], by simp [push_cast, seval], by simp [push_cast, seval]⟩
    · intro h1; (try simp only [decide_eq_true_eq, decide_eq_false_iff_not, Bool.not_eq_true', Bool.not_eq_false', Bool.and_eq_true, Bool.or_eq_true, Bool.not_eq_true] at h1)
      refine awp_skip ?_
      refine mid_end [0, 1] _ rfl ?_
      exact ⟨by simp, by simp, by simp [push_cast, seval], by simp [push_cast, seval], by simp [push_cast, seval], by simp [push_cast, seval]⟩
  rintro _ rfl
  have h31 := p31 M rn rd an ad
  have law := need_law (k := M) (rn := rn) (rd := rd) (an := an) (ad := ad) (by omega) (by omega)
  generalize neededI M rn rd an ad = l at h31 law
  refine awp_seq ?_
  refine awpF_region ?_; intro K hK; simp only [push_cast, seval]
  refine CallK.pd (h31) ?_; simp only [push_cast, seval]; (try simp (disch := omega) only [wrapI]); (repeat ((with_reducible refine And.intro ?_ ?_); (focus (first | omega | trivial | assumption | (intro _ hrow; obtain ⟨_, _, rfl⟩ := List.mem_map.1 hrow; rfl) | ((intros; repeat' apply And.intro) <;> first | omega | trivial | assumption | (intro _ hrow; obtain ⟨_, _, rfl⟩ := List.mem_map.1 hrow; rfl) | (simp_all; done) | (simp_all; omega))))))
  refine hK _ ?_; clear hK; clear K
  have c0 := p23 0 0 rn rd an ad
  have c1 := p23 60 M rn rd an ad
  have c2 := p23 l M rn rd an ad
  have c3 := p23 (l - 1) M rn rd an ad
  generalize holdsB 0 0 rn rd an ad = l0 at law c0
  generalize holdsB 60 M rn rd an ad = l1 at law c1
  generalize holdsB l M rn rd an ad = l2 at law c2
  generalize holdsB (l - 1) M rn rd an ad = l3 at law c3
  refine awp_seq ?_
  refine awp_seq ?_
  refine awpF_region ?_; intro K hK; simp only [push_cast, seval]; (try simp (disch := omega) only [wrapI]); (repeat ((with_reducible refine And.intro ?_ ?_); (focus (first | omega | trivial | assumption | (intro _ hrow; obtain ⟨_, _, rfl⟩ := List.mem_map.1 hrow; rfl) | ((intros; repeat' apply And.intro) <;> first | omega | trivial | assumption | (intro _ hrow; obtain ⟨_, _, rfl⟩ := List.mem_map.1 hrow; rfl) | (simp_all; done) | (simp_all; omega)))))); refine hK _ ?_; clear hK; clear K
  apply awp_cond; (focus (simp only [push_cast, seval]; rfl))
  · intro h1; (try simp only [decide_eq_true_eq, decide_eq_false_iff_not, Bool.not_eq_true', Bool.not_eq_false', Bool.and_eq_true, Bool.or_eq_true, Bool.not_eq_true] at h1)
    obtain rfl : l = 0 := by simpa using h1
    obtain ⟨q0, hq0⟩ : ∃ b, (M == 0) = b := ⟨_, rfl⟩
    have law2 : (q0 = true ∧ l0 = true) ∨ l1 = false := (law.1 rfl).imp (fun h => ⟨by rw [← hq0]; simpa using h.1, h.2⟩) id
    refine awp_seq ?_
    refine awpF_region ?_; intro K hK; simp only [push_cast, seval, hq0]
    (repeat ((with_reducible refine And.intro ?_ ?_); (focus ((cases q0 <;> (simp; done)))))); refine CallK.pg (fun _ => c0) ?_; simp only [push_cast, seval, hq0]; (try simp (disch := omega) only [wrapI])
    (repeat ((with_reducible refine And.intro ?_ ?_); (focus ((cases q0 <;> cases l0 <;> (simp; done)))))); refine CallK.pg (fun _ => c1) ?_; simp only [push_cast, seval, hq0]; (try simp (disch := omega) only [wrapI])
    (repeat ((with_reducible refine And.intro ?_ ?_); (focus ((cases q0 <;> cases l0 <;> cases l1 <;> (simp; done)))))); refine CallK.pg (fun _ => p19) ?_; simp only [push_cast, seval, hq0]; (try simp (disch := omega) only [wrapI])
    (repeat ((with_reducible refine And.intro ?_ ?_); (focus ((cases q0 <;> cases l0 <;> cases l1 <;> (simp; done))))))
    refine hK _ ?_; clear hK; clear K
    refine awp_ret ?_; (repeat (first | refine then_ret ?_ | refine inblock_ret ?_)); refine fin_of (by simp only [push_cast, seval]; first | done | rfl) (by first | trivial | first | omega | trivial | assumption | (intro _ hrow; obtain ⟨_, _, rfl⟩ := List.mem_map.1 hrow; rfl) | ((intros; repeat' apply And.intro) <;> first | omega | trivial | assumption | (intro _ hrow; obtain ⟨_, _, rfl⟩ := List.mem_map.1 hrow; rfl) | (simp_all; done) | (simp_all; omega))) ?_
    clear hq0
    revert law2
    cases q0 <;> cases l0 <;> cases l1 <;> simp
  · intro h1; (try simp only [decide_eq_true_eq, decide_eq_false_iff_not, Bool.not_eq_true', Bool.not_eq_false', Bool.and_eq_true, Bool.or_eq_true, Bool.not_eq_true] at h1)
    have h0 : l ≠ 0 := by simpa using h1
    obtain ⟨g1, g2, g3, g4⟩ := law.2 h0
    obtain ⟨q0, hq0⟩ : ∃ b, (l == M) = b := ⟨_, rfl⟩
    have e1 : (l ≥ M) = True := eq_true (by omega)
    have e2 : (l ≤ 60) = True := eq_true (by omega)
    have e3 : IntKind.i64.wrap (l - 1) = l - 1 := wrapI _ (by omega)
    have law2 : q0 = true ∨ l3 = false := g4.imp (fun h => by rw [← hq0]; simpa using h) id
    refine awp_skip ?_
    refine awp_seq ?_
    refine awpF_region ?_; intro K hK; simp only [push_cast, seval, hq0, e1, e2, e3]
    (repeat ((with_reducible refine And.intro ?_ ?_); (focus ((cases q0 <;> (simp; done)))))); refine CallK.pg (fun _ => c2) ?_; simp only [push_cast, seval, hq0, e1, e2, e3]; (try simp (disch := omega) only [wrapI])
    (repeat ((with_reducible refine And.intro ?_ ?_); (focus ((cases q0 <;> cases l2 <;> (simp; done)))))); refine CallK.pg (fun _ => c3) ?_; simp only [push_cast, seval, hq0, e1, e2, e3]; (try simp (disch := omega) only [wrapI])
    (repeat ((with_reducible refine And.intro ?_ ?_); (focus ((cases q0 <;> cases l2 <;> cases l3 <;> (simp; done)))))); refine CallK.pg (fun _ => p19) ?_; simp only [push_cast, seval, hq0, e1, e2, e3]; (try simp (disch := omega) only [wrapI])
    (repeat ((with_reducible refine And.intro ?_ ?_); (focus ((cases q0 <;> cases l2 <;> cases l3 <;> (simp; done))))))
    refine hK _ ?_; clear hK; clear K
    refine awp_ret ?_; (repeat (first | refine then_ret ?_ | refine inblock_ret ?_)); refine fin_of (by simp only [push_cast, seval]; first | done | rfl) (by first | trivial | first | omega | trivial | assumption | (intro _ hrow; obtain ⟨_, _, rfl⟩ := List.mem_map.1 hrow; rfl) | ((intros; repeat' apply And.intro) <;> first | omega | trivial | assumption | (intro _ hrow; obtain ⟨_, _, rfl⟩ := List.mem_map.1 hrow; rfl) | (simp_all; done) | (simp_all; omega))) ?_
    clear hq0
    revert law2 g3
    cases q0 <;> cases l2 <;> cases l3 <;> simp
end Go.Aw
