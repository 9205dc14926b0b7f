/-
  The statement that tails are 1 together, and rise: its walk. Region 3 draws three allocs beside three calls (120 orders, six numberings of the blocks). No condition.
-/
import Derived.Test.YtmmnjelmahcbaaaN19
namespace Go.Aw
set_option linter.unusedSimpArgs false
set_option linter.unusedVariables false
open Go.RowKit Go.Proofs Go.Nt Go.Rl

set_option maxRecDepth 20000 in
set_option maxHeartbeats 4000000 in
theorem p6 (n k a1 b1 a2 b2 a3 b3 a4 b4 : Int) : PD Try.prog 6 [.int .i64 n, .int .i64 k, .agg [.int .i64 a1, .int .i64 b1], .agg [.int .i64 a2, .int .i64 b2], .agg [.int .i64 a3, .int .i64 b3], .agg [.int .i64 a4, .int .i64 b4]] (.d (.bool true)) := by
  have c1 := modI_bounds (n := n) (m := 30) (by decide)
  obtain ⟨N, hN⟩ : ∃ x, 1 + modI n 30 = x := ⟨_, rfl⟩
  have c2 := modI_bounds (n := k) (m := N) (by omega)
  have h20a := p20 n 30 (by decide) (by decide)
  have h20b := p20 k N (by omega) (by omega)
  have w1 : IntKind.i64.wrap (1 + modI n 30) = N := (wrapI _ (by omega)).trans hN
  generalize modI k N = K at c2 h20b
  have w2 : IntKind.i64.wrap (K + 1) = K + 1 := wrapI _ (by omega)
  have h22r := p22 a1 b1
  have h22s := p22 a2 b2
  have h22a := p22 a3 b3
  have h22b := p22 a4 b4
  have hr := made_rate a1 b1
  have hs := made_rate a2 b2
  have ha := made_rate a3 b3
  have hb := made_rate a4 b4
  generalize madeN a1 b1 = rn at h22r hr
  generalize madeD b1 = rd at h22r hr
  generalize madeN a2 b2 = sn at h22s hs
  generalize madeD b2 = sd at h22s hs
  generalize madeN a3 b3 = an at h22a ha
  generalize madeD b3 = ad at h22a ha
  generalize madeN a4 b4 = bn at h22b hb
  generalize madeD b4 = bd at h22b hb
  have law := sums_law hr ha hb (N := N) (K := K) (by omega) (by omega) (by omega)
  obtain ⟨x1, x2, x3, x4⟩ := rateB_iff.1 hr
  obtain ⟨y1, y2, y3, y4⟩ := rateB_iff.1 ha
  obtain ⟨z1, z2, z3, z4⟩ := rateB_iff.1 hb
  obtain ⟨u1, u2, u3, u4⟩ := rateB_iff.1 hs
  refine pd_of (fn := Try.f6) [.tmp 12] (by kernel_rfl) rfl (by kernel_rfl) (Nat.le_of_ble_eq_true rfl) (by kernel_rfl) rfl rfl ?_
  refine awp_seq ?_
  refine awpF_region ?_; intro K hK; simp only [push_cast, seval]; (try simp (disch := omega) only [wrapI]); (repeat ((with_reducible refine And.intro ?_ ?_); (focus (first | omega | trivial | assumption | (intro _ hrow; obtain ⟨_, _, rfl⟩ := List.mem_map.1 hrow; rfl) | ((intros; repeat' apply And.intro) <;> first | omega | trivial | assumption | (intro _ hrow; obtain ⟨_, _, rfl⟩ := List.mem_map.1 hrow; rfl) | (simp_all; done) | (simp_all; omega)))))); refine hK _ ?_; clear hK; clear K
  refine awp_seq ?_
  refine awpF_region ?_; intro K hK; simp only [push_cast, seval]
  refine CallK.pd h20a ?_
  simp only [push_cast, seval, w1]
  refine hK _ ?_; clear hK; clear K
  refine awp_seq ?_
  refine awpF_region ?_; intro K hK; simp only [push_cast, seval]
  refine CallK.pd (h20b) ?_; simp only [push_cast, seval]; (try simp (disch := omega) only [wrapI]); (repeat ((with_reducible refine And.intro ?_ ?_); (focus (first | omega | trivial | assumption | (intro _ hrow; obtain ⟨_, _, rfl⟩ := List.mem_map.1 hrow; rfl) | ((intros; repeat' apply And.intro) <;> first | omega | trivial | assumption | (intro _ hrow; obtain ⟨_, _, rfl⟩ := List.mem_map.1 hrow; rfl) | (simp_all; done) | (simp_all; omega))))))
  refine hK _ ?_; clear hK; clear K
  refine awp_mid (fun u => u = ⟨[(0, .d (.int .i64 N)), (1, .d (.int .i64 K)), (9, .ptr 0 0 0), (13, .ptr 1 0 0), (14, .ptr 2 0 0), (15, .ptr 3 0 0)], [.cells [.d (.int .i64 a2), .d (.int .i64 b2)], .cells [.d (.int .i64 rn), .d (.int .i64 rd)], .cells [.d (.int .i64 an), .d (.int .i64 ad)], .cells [.d (.int .i64 bn), .d (.int .i64 bd)]]⟩) ?_ ?_
  · refine awpF_drawT (DT.op 0 (DT.op 2 (DT.op 4 (DT.or (DT.op 1 (DT.or (DT.op 3 (DT.or (DT.op 5 (DT.or (DT.op 6 (DT.or (DT.op 7 (DT.op 8 (DT.op 9 (DT.op 10 (DT.op 11 DT.nil))))) (DT.op 8 (DT.op 7 (DT.op 9 (DT.op 10 (DT.op 11 DT.nil))))))) (DT.or (DT.op 7 (DT.or (DT.op 6 (DT.op 8 (DT.op 9 (DT.op 10 (DT.op 11 DT.nil))))) (DT.op 8 (DT.op 6 (DT.op 9 (DT.op 10 (DT.op 11 DT.nil))))))) (DT.op 8 (DT.or (DT.op 6 (DT.op 7 (DT.op 9 (DT.op 10 (DT.op 11 DT.nil))))) (DT.op 7 (DT.op 6 (DT.op 9 (DT.op 10 (DT.op 11 DT.nil)))))))))) (DT.or (DT.op 6 (DT.or (DT.op 5 (DT.or (DT.op 7 (DT.op 8 (DT.op 9 (DT.op 10 (DT.op 11 DT.nil))))) (DT.op 8 (DT.op 7 (DT.op 9 (DT.op 10 (DT.op 11 DT.nil))))))) (DT.or (DT.op 7 (DT.or (DT.op 5 (DT.op 8 (DT.op 9 (DT.op 10 (DT.op 11 DT.nil))))) (DT.op 8 (DT.op 5 (DT.op 9 (DT.op 10 (DT.op 11 DT.nil))))))) (DT.op 8 (DT.or (DT.op 5 (DT.op 7 (DT.op 9 (DT.op 10 (DT.op 11 DT.nil))))) (DT.op 7 (DT.op 5 (DT.op 9 (DT.op 10 (DT.op 11 DT.nil)))))))))) (DT.or (DT.op 7 (DT.or (DT.op 5 (DT.or (DT.op 6 (DT.op 8 (DT.op 9 (DT.op 10 (DT.op 11 DT.nil))))) (DT.op 8 (DT.op 6 (DT.op 9 (DT.op 10 (DT.op 11 DT.nil))))))) (DT.or (DT.op 6 (DT.or (DT.op 5 (DT.op 8 (DT.op 9 (DT.op 10 (DT.op 11 DT.nil))))) (DT.op 8 (DT.op 5 (DT.op 9 (DT.op 10 (DT.op 11 DT.nil))))))) (DT.op 8 (DT.or (DT.op 5 (DT.op 6 (DT.op 9 (DT.op 10 (DT.op 11 DT.nil))))) (DT.op 6 (DT.op 5 (DT.op 9 (DT.op 10 (DT.op 11 DT.nil)))))))))) (DT.op 8 (DT.or (DT.op 5 (DT.or (DT.op 6 (DT.op 7 (DT.op 9 (DT.op 10 (DT.op 11 DT.nil))))) (DT.op 7 (DT.op 6 (DT.op 9 (DT.op 10 (DT.op 11 DT.nil))))))) (DT.or (DT.op 6 (DT.or (DT.op 5 (DT.op 7 (DT.op 9 (DT.op 10 (DT.op 11 DT.nil))))) (DT.op 7 (DT.op 5 (DT.op 9 (DT.op 10 (DT.op 11 DT.nil))))))) (DT.op 7 (DT.or (DT.op 5 (DT.op 6 (DT.op 9 (DT.op 10 (DT.op 11 DT.nil))))) (DT.op 6 (DT.op 5 (DT.op 9 (DT.op 10 (DT.op 11 DT.nil)))))))))))))) (DT.or (DT.op 6 (DT.or (DT.op 3 (DT.or (DT.op 5 (DT.or (DT.op 7 (DT.op 8 (DT.op 9 (DT.op 10 (DT.op 11 DT.nil))))) (DT.op 8 (DT.op 7 (DT.op 9 (DT.op 10 (DT.op 11 DT.nil))))))) (DT.or (DT.op 7 (DT.or (DT.op 5 (DT.op 8 (DT.op 9 (DT.op 10 (DT.op 11 DT.nil))))) (DT.op 8 (DT.op 5 (DT.op 9 (DT.op 10 (DT.op 11 DT.nil))))))) (DT.op 8 (DT.or (DT.op 5 (DT.op 7 (DT.op 9 (DT.op 10 (DT.op 11 DT.nil))))) (DT.op 7 (DT.op 5 (DT.op 9 (DT.op 10 (DT.op 11 DT.nil)))))))))) (DT.or (DT.op 7 (DT.or (DT.op 3 (DT.or (DT.op 5 (DT.op 8 (DT.op 9 (DT.op 10 (DT.op 11 DT.nil))))) (DT.op 8 (DT.op 5 (DT.op 9 (DT.op 10 (DT.op 11 DT.nil))))))) (DT.op 8 (DT.op 3 (DT.op 5 (DT.op 9 (DT.op 10 (DT.op 11 DT.nil)))))))) (DT.op 8 (DT.or (DT.op 3 (DT.or (DT.op 5 (DT.op 7 (DT.op 9 (DT.op 10 (DT.op 11 DT.nil))))) (DT.op 7 (DT.op 5 (DT.op 9 (DT.op 10 (DT.op 11 DT.nil))))))) (DT.op 7 (DT.op 3 (DT.op 5 (DT.op 9 (DT.op 10 (DT.op 11 DT.nil))))))))))) (DT.or (DT.op 7 (DT.or (DT.op 3 (DT.or (DT.op 5 (DT.or (DT.op 6 (DT.op 8 (DT.op 9 (DT.op 10 (DT.op 11 DT.nil))))) (DT.op 8 (DT.op 6 (DT.op 9 (DT.op 10 (DT.op 11 DT.nil))))))) (DT.or (DT.op 6 (DT.or (DT.op 5 (DT.op 8 (DT.op 9 (DT.op 10 (DT.op 11 DT.nil))))) (DT.op 8 (DT.op 5 (DT.op 9 (DT.op 10 (DT.op 11 DT.nil))))))) (DT.op 8 (DT.or (DT.op 5 (DT.op 6 (DT.op 9 (DT.op 10 (DT.op 11 DT.nil))))) (DT.op 6 (DT.op 5 (DT.op 9 (DT.op 10 (DT.op 11 DT.nil)))))))))) (DT.or (DT.op 6 (DT.or (DT.op 3 (DT.or (DT.op 5 (DT.op 8 (DT.op 9 (DT.op 10 (DT.op 11 DT.nil))))) (DT.op 8 (DT.op 5 (DT.op 9 (DT.op 10 (DT.op 11 DT.nil))))))) (DT.op 8 (DT.op 3 (DT.op 5 (DT.op 9 (DT.op 10 (DT.op 11 DT.nil)))))))) (DT.op 8 (DT.or (DT.op 3 (DT.or (DT.op 5 (DT.op 6 (DT.op 9 (DT.op 10 (DT.op 11 DT.nil))))) (DT.op 6 (DT.op 5 (DT.op 9 (DT.op 10 (DT.op 11 DT.nil))))))) (DT.op 6 (DT.op 3 (DT.op 5 (DT.op 9 (DT.op 10 (DT.op 11 DT.nil))))))))))) (DT.op 8 (DT.or (DT.op 3 (DT.or (DT.op 5 (DT.or (DT.op 6 (DT.op 7 (DT.op 9 (DT.op 10 (DT.op 11 DT.nil))))) (DT.op 7 (DT.op 6 (DT.op 9 (DT.op 10 (DT.op 11 DT.nil))))))) (DT.or (DT.op 6 (DT.or (DT.op 5 (DT.op 7 (DT.op 9 (DT.op 10 (DT.op 11 DT.nil))))) (DT.op 7 (DT.op 5 (DT.op 9 (DT.op 10 (DT.op 11 DT.nil))))))) (DT.op 7 (DT.or (DT.op 5 (DT.op 6 (DT.op 9 (DT.op 10 (DT.op 11 DT.nil))))) (DT.op 6 (DT.op 5 (DT.op 9 (DT.op 10 (DT.op 11 DT.nil)))))))))) (DT.or (DT.op 6 (DT.or (DT.op 3 (DT.or (DT.op 5 (DT.op 7 (DT.op 9 (DT.op 10 (DT.op 11 DT.nil))))) (DT.op 7 (DT.op 5 (DT.op 9 (DT.op 10 (DT.op 11 DT.nil))))))) (DT.op 7 (DT.op 3 (DT.op 5 (DT.op 9 (DT.op 10 (DT.op 11 DT.nil)))))))) (DT.op 7 (DT.or (DT.op 3 (DT.or (DT.op 5 (DT.op 6 (DT.op 9 (DT.op 10 (DT.op 11 DT.nil))))) (DT.op 6 (DT.op 5 (DT.op 9 (DT.op 10 (DT.op 11 DT.nil))))))) (DT.op 6 (DT.op 3 (DT.op 5 (DT.op 9 (DT.op 10 (DT.op 11 DT.nil))))))))))))))) (DT.or (DT.op 6 (DT.or (DT.op 1 (DT.or (DT.op 3 (DT.or (DT.op 5 (DT.or (DT.op 7 (DT.op 8 (DT.op 9 (DT.op 10 (DT.op 11 DT.nil))))) (DT.op 8 (DT.op 7 (DT.op 9 (DT.op 10 (DT.op 11 DT.nil))))))) (DT.or (DT.op 7 (DT.or (DT.op 5 (DT.op 8 (DT.op 9 (DT.op 10 (DT.op 11 DT.nil))))) (DT.op 8 (DT.op 5 (DT.op 9 (DT.op 10 (DT.op 11 DT.nil))))))) (DT.op 8 (DT.or (DT.op 5 (DT.op 7 (DT.op 9 (DT.op 10 (DT.op 11 DT.nil))))) (DT.op 7 (DT.op 5 (DT.op 9 (DT.op 10 (DT.op 11 DT.nil)))))))))) (DT.or (DT.op 7 (DT.or (DT.op 3 (DT.or (DT.op 5 (DT.op 8 (DT.op 9 (DT.op 10 (DT.op 11 DT.nil))))) (DT.op 8 (DT.op 5 (DT.op 9 (DT.op 10 (DT.op 11 DT.nil))))))) (DT.op 8 (DT.op 3 (DT.op 5 (DT.op 9 (DT.op 10 (DT.op 11 DT.nil)))))))) (DT.op 8 (DT.or (DT.op 3 (DT.or (DT.op 5 (DT.op 7 (DT.op 9 (DT.op 10 (DT.op 11 DT.nil))))) (DT.op 7 (DT.op 5 (DT.op 9 (DT.op 10 (DT.op 11 DT.nil))))))) (DT.op 7 (DT.op 3 (DT.op 5 (DT.op 9 (DT.op 10 (DT.op 11 DT.nil))))))))))) (DT.or (DT.op 7 (DT.or (DT.op 1 (DT.or (DT.op 3 (DT.or (DT.op 5 (DT.op 8 (DT.op 9 (DT.op 10 (DT.op 11 DT.nil))))) (DT.op 8 (DT.op 5 (DT.op 9 (DT.op 10 (DT.op 11 DT.nil))))))) (DT.op 8 (DT.op 3 (DT.op 5 (DT.op 9 (DT.op 10 (DT.op 11 DT.nil)))))))) (DT.op 8 (DT.op 1 (DT.op 3 (DT.op 5 (DT.op 9 (DT.op 10 (DT.op 11 DT.nil))))))))) (DT.op 8 (DT.or (DT.op 1 (DT.or (DT.op 3 (DT.or (DT.op 5 (DT.op 7 (DT.op 9 (DT.op 10 (DT.op 11 DT.nil))))) (DT.op 7 (DT.op 5 (DT.op 9 (DT.op 10 (DT.op 11 DT.nil))))))) (DT.op 7 (DT.op 3 (DT.op 5 (DT.op 9 (DT.op 10 (DT.op 11 DT.nil)))))))) (DT.op 7 (DT.op 1 (DT.op 3 (DT.op 5 (DT.op 9 (DT.op 10 (DT.op 11 DT.nil)))))))))))) (DT.or (DT.op 7 (DT.or (DT.op 1 (DT.or (DT.op 3 (DT.or (DT.op 5 (DT.or (DT.op 6 (DT.op 8 (DT.op 9 (DT.op 10 (DT.op 11 DT.nil))))) (DT.op 8 (DT.op 6 (DT.op 9 (DT.op 10 (DT.op 11 DT.nil))))))) (DT.or (DT.op 6 (DT.or (DT.op 5 (DT.op 8 (DT.op 9 (DT.op 10 (DT.op 11 DT.nil))))) (DT.op 8 (DT.op 5 (DT.op 9 (DT.op 10 (DT.op 11 DT.nil))))))) (DT.op 8 (DT.or (DT.op 5 (DT.op 6 (DT.op 9 (DT.op 10 (DT.op 11 DT.nil))))) (DT.op 6 (DT.op 5 (DT.op 9 (DT.op 10 (DT.op 11 DT.nil)))))))))) (DT.or (DT.op 6 (DT.or (DT.op 3 (DT.or (DT.op 5 (DT.op 8 (DT.op 9 (DT.op 10 (DT.op 11 DT.nil))))) (DT.op 8 (DT.op 5 (DT.op 9 (DT.op 10 (DT.op 11 DT.nil))))))) (DT.op 8 (DT.op 3 (DT.op 5 (DT.op 9 (DT.op 10 (DT.op 11 DT.nil)))))))) (DT.op 8 (DT.or (DT.op 3 (DT.or (DT.op 5 (DT.op 6 (DT.op 9 (DT.op 10 (DT.op 11 DT.nil))))) (DT.op 6 (DT.op 5 (DT.op 9 (DT.op 10 (DT.op 11 DT.nil))))))) (DT.op 6 (DT.op 3 (DT.op 5 (DT.op 9 (DT.op 10 (DT.op 11 DT.nil))))))))))) (DT.or (DT.op 6 (DT.or (DT.op 1 (DT.or (DT.op 3 (DT.or (DT.op 5 (DT.op 8 (DT.op 9 (DT.op 10 (DT.op 11 DT.nil))))) (DT.op 8 (DT.op 5 (DT.op 9 (DT.op 10 (DT.op 11 DT.nil))))))) (DT.op 8 (DT.op 3 (DT.op 5 (DT.op 9 (DT.op 10 (DT.op 11 DT.nil)))))))) (DT.op 8 (DT.op 1 (DT.op 3 (DT.op 5 (DT.op 9 (DT.op 10 (DT.op 11 DT.nil))))))))) (DT.op 8 (DT.or (DT.op 1 (DT.or (DT.op 3 (DT.or (DT.op 5 (DT.op 6 (DT.op 9 (DT.op 10 (DT.op 11 DT.nil))))) (DT.op 6 (DT.op 5 (DT.op 9 (DT.op 10 (DT.op 11 DT.nil))))))) (DT.op 6 (DT.op 3 (DT.op 5 (DT.op 9 (DT.op 10 (DT.op 11 DT.nil)))))))) (DT.op 6 (DT.op 1 (DT.op 3 (DT.op 5 (DT.op 9 (DT.op 10 (DT.op 11 DT.nil)))))))))))) (DT.op 8 (DT.or (DT.op 1 (DT.or (DT.op 3 (DT.or (DT.op 5 (DT.or (DT.op 6 (DT.op 7 (DT.op 9 (DT.op 10 (DT.op 11 DT.nil))))) (DT.op 7 (DT.op 6 (DT.op 9 (DT.op 10 (DT.op 11 DT.nil))))))) (DT.or (DT.op 6 (DT.or (DT.op 5 (DT.op 7 (DT.op 9 (DT.op 10 (DT.op 11 DT.nil))))) (DT.op 7 (DT.op 5 (DT.op 9 (DT.op 10 (DT.op 11 DT.nil))))))) (DT.op 7 (DT.or (DT.op 5 (DT.op 6 (DT.op 9 (DT.op 10 (DT.op 11 DT.nil))))) (DT.op 6 (DT.op 5 (DT.op 9 (DT.op 10 (DT.op 11 DT.nil)))))))))) (DT.or (DT.op 6 (DT.or (DT.op 3 (DT.or (DT.op 5 (DT.op 7 (DT.op 9 (DT.op 10 (DT.op 11 DT.nil))))) (DT.op 7 (DT.op 5 (DT.op 9 (DT.op 10 (DT.op 11 DT.nil))))))) (DT.op 7 (DT.op 3 (DT.op 5 (DT.op 9 (DT.op 10 (DT.op 11 DT.nil)))))))) (DT.op 7 (DT.or (DT.op 3 (DT.or (DT.op 5 (DT.op 6 (DT.op 9 (DT.op 10 (DT.op 11 DT.nil))))) (DT.op 6 (DT.op 5 (DT.op 9 (DT.op 10 (DT.op 11 DT.nil))))))) (DT.op 6 (DT.op 3 (DT.op 5 (DT.op 9 (DT.op 10 (DT.op 11 DT.nil))))))))))) (DT.or (DT.op 6 (DT.or (DT.op 1 (DT.or (DT.op 3 (DT.or (DT.op 5 (DT.op 7 (DT.op 9 (DT.op 10 (DT.op 11 DT.nil))))) (DT.op 7 (DT.op 5 (DT.op 9 (DT.op 10 (DT.op 11 DT.nil))))))) (DT.op 7 (DT.op 3 (DT.op 5 (DT.op 9 (DT.op 10 (DT.op 11 DT.nil)))))))) (DT.op 7 (DT.op 1 (DT.op 3 (DT.op 5 (DT.op 9 (DT.op 10 (DT.op 11 DT.nil))))))))) (DT.op 7 (DT.or (DT.op 1 (DT.or (DT.op 3 (DT.or (DT.op 5 (DT.op 6 (DT.op 9 (DT.op 10 (DT.op 11 DT.nil))))) (DT.op 6 (DT.op 5 (DT.op 9 (DT.op 10 (DT.op 11 DT.nil))))))) (DT.op 6 (DT.op 3 (DT.op 5 (DT.op 9 (DT.op 10 (DT.op 11 DT.nil)))))))) (DT.op 6 (DT.op 1 (DT.op 3 (DT.op 5 (DT.op 9 (DT.op 10 (DT.op 11 DT.nil)))))))))))))))))) (by kernel_rfl) (by kernel_rfl) (by kernel_rfl) ?_
    intro K' hK
    simp only [push_cast, seval]
    repeat' (first | (with_reducible refine And.intro ?_ ?_) | (refine hK _ (mid_end [1, 4, 5, 6] _ rfl ?_); refine ⟨?_, ?_, ?_, ?_, ?_, ?_⟩ <;> (simp [push_cast, seval]; done)) | (refine hK _ (mid_end [1, 4, 6, 5] _ rfl ?_); refine ⟨?_, ?_, ?_, ?_, ?_, ?_⟩ <;> (simp [push_cast, seval]; done)) | (refine hK _ (mid_end [1, 5, 4, 6] _ rfl ?_); refine ⟨?_, ?_, ?_, ?_, ?_, ?_⟩ <;> (simp [push_cast, seval]; done)) | (refine hK _ (mid_end [1, 5, 6, 4] _ rfl ?_); refine ⟨?_, ?_, ?_, ?_, ?_, ?_⟩ <;> (simp [push_cast, seval]; done)) | (refine hK _ (mid_end [1, 6, 4, 5] _ rfl ?_); refine ⟨?_, ?_, ?_, ?_, ?_, ?_⟩ <;> (simp [push_cast, seval]; done)) | (refine hK _ (mid_end [1, 6, 5, 4] _ rfl ?_); refine ⟨?_, ?_, ?_, ?_, ?_, ?_⟩ <;> (simp [push_cast, seval]; done)) | (refine CallK.pd h22r ?_; simp only [push_cast, seval]) | (refine CallK.pd h22a ?_; simp only [push_cast, seval]) | (refine CallK.pd h22b ?_; simp only [push_cast, seval]) | omega | trivial)
  rintro _ rfl
  have mb : ∀ x y : Int, 0 ≤ x → x ≤ 1000 → 0 ≤ y → y ≤ 1000 → 0 ≤ x * y ∧ x * y ≤ 1000000 := fun x y h1 h2 h3 h4 =>
    ⟨Int.mul_nonneg h1 h3, Int.le_trans (Int.mul_le_mul h2 h4 h3 (by omega)) (by decide)⟩
  have q1 := mb an bd (by omega) (by omega) (by omega) (by omega)
  have q2 := mb bn ad (by omega) (by omega) (by omega) (by omega)
  have q3 := mb ad bd (by omega) (by omega) (by omega) (by omega)
  have v1 : IntKind.i64.wrap (an * bd) = an * bd := wrapI _ (by omega)
  have v2 : IntKind.i64.wrap (bn * ad) = bn * ad := wrapI _ (by omega)
  have v3 : IntKind.i64.wrap (ad * bd) = ad * bd := wrapI _ (by omega)
  have v4 : IntKind.i64.wrap (an * bd + bn * ad) = an * bd + bn * ad := wrapI _ (by omega)
  refine awp_seq ?_
  refine awpF_draw [0,1,2,3,5,6,7,8,9,4,10,11,12] (by kernel_rfl) (by kernel_rfl) rfl ?_; intro K hK; simp only [push_cast, seval, w2]
  refine CallK.pd (p23 _ _ _ _ _ _) ?_; simp only [push_cast, seval]; (try simp (disch := omega) only [wrapI]); (repeat ((with_reducible refine And.intro ?_ ?_); (focus (first | omega | trivial | assumption | (intro _ hrow; obtain ⟨_, _, rfl⟩ := List.mem_map.1 hrow; rfl) | ((intros; repeat' apply And.intro) <;> first | omega | trivial | assumption | (intro _ hrow; obtain ⟨_, _, rfl⟩ := List.mem_map.1 hrow; rfl) | (simp_all; done) | (simp_all; omega))))))
  refine CallK.pd (p26 _ _ _ _ _ _) ?_; simp only [push_cast, seval]; (try simp (disch := omega) only [wrapI]); (repeat ((with_reducible refine And.intro ?_ ?_); (focus (first | omega | trivial | assumption | (intro _ hrow; obtain ⟨_, _, rfl⟩ := List.mem_map.1 hrow; rfl) | ((intros; repeat' apply And.intro) <;> first | omega | trivial | assumption | (intro _ hrow; obtain ⟨_, _, rfl⟩ := List.mem_map.1 hrow; rfl) | (simp_all; done) | (simp_all; omega))))))
  refine hK _ ?_; clear hK; clear K
  refine awp_seq ?_
  refine awpF_region ?_; intro K hK; simp only [push_cast, seval, v1, v2, v4]; (try simp (disch := omega) only [wrapI]); (repeat ((with_reducible refine And.intro ?_ ?_); (focus (first | omega | trivial | assumption | (intro _ hrow; obtain ⟨_, _, rfl⟩ := List.mem_map.1 hrow; rfl) | ((intros; repeat' apply And.intro) <;> first | omega | trivial | assumption | (intro _ hrow; obtain ⟨_, _, rfl⟩ := List.mem_map.1 hrow; rfl) | (simp_all; done) | (simp_all; omega)))))); refine hK _ ?_; clear hK; clear K
  have h23 := p23 N (K + 1) rn rd an ad
  generalize holdsB N (K + 1) rn rd an ad = l2 at law h23
  generalize holdsB N K rn rd an ad = l1 at law ⊢
  generalize failsB N (K + 1) rn rd bn bd = u1 at law ⊢
  generalize an * bd + bn * ad = one at law ⊢
  generalize hmm : ad * bd = mm at law v3 ⊢
  refine awp_mid (fun u => u = ⟨[(0, .d (.int .i64 N)), (1, .d (.int .i64 K)), (9, .ptr 0 0 0), (13, .ptr 1 0 0)], [.cells [.d (.int .i64 a2), .d (.int .i64 b2)], .cells [.d (.int .i64 rn), .d (.int .i64 rd)]]⟩) ?_ ?_
  · obtain ⟨l3, l4, l5⟩ := law
    have dn : ∀ x : Bool, (!x && x) = false := fun x => by cases x <;> rfl
    by_cases hom : one < mm
    · have ho1 : (one < mm) = True := eq_true hom
      have ho2 : (one ≥ mm) = False := eq_false (by omega)
      cases l1 <;> cases u1 <;> first | (exact absurd (l3 hom rfl) (by decide)) | skip
      all_goals (refine awp_seq ?_; refine awpF_region ?_; intro K hK; simp only [push_cast, seval, v3, w2, hmm, ho1, ho2, decide_true, decide_false, Bool.not_true, Bool.not_false]; (refine CallK.pg (fun _ => h23) ?_); simp only [push_cast, seval]; (try simp only [bif_and, Bool.and_false]); (repeat ((with_reducible refine And.intro ?_ ?_); (focus (first | omega | trivial | assumption | (intro _ hrow; obtain ⟨_, _, rfl⟩ := List.mem_map.1 hrow; rfl) | ((intros; repeat' apply And.intro) <;> first | omega | trivial | assumption | (intro _ hrow; obtain ⟨_, _, rfl⟩ := List.mem_map.1 hrow; rfl) | (simp_all; done) | (simp_all; omega)))))); refine hK _ ?_; clear hK; clear K; apply awp_cond; (focus (simp only [push_cast, seval]; rfl)))
      all_goals first | (intro hx; exfalso; revert hx l5; cases l2 <;> simp; done) | (intro hx; refine awp_skip ?_; refine mid_end [0, 1] _ rfl ?_; exact ⟨by simp, by simp, by simp [push_cast, seval], by simp [push_cast, seval], by simp [push_cast, seval], by simp [push_cast, seval]⟩)
    · have ho1 : (one < mm) = False := eq_false hom
      have ho2 : (one ≥ mm) = True := eq_true (by omega)
      cases l1 <;> cases u1 <;> first | (exact absurd (l4 (by omega) rfl) (by decide)) | skip
      all_goals (refine awp_seq ?_; refine awpF_region ?_; intro K hK; simp only [push_cast, seval, v3, w2, hmm, ho1, ho2, decide_true, decide_false, Bool.not_true, Bool.not_false]; (refine CallK.pg (fun _ => h23) ?_); simp only [push_cast, seval]; (try simp only [bif_and, Bool.and_false]); (repeat ((with_reducible refine And.intro ?_ ?_); (focus (first | omega | trivial | assumption | (intro _ hrow; obtain ⟨_, _, rfl⟩ := List.mem_map.1 hrow; rfl) | ((intros; repeat' apply And.intro) <;> first | omega | trivial | assumption | (intro _ hrow; obtain ⟨_, _, rfl⟩ := List.mem_map.1 hrow; rfl) | (simp_all; done) | (simp_all; omega)))))); refine hK _ ?_; clear hK; clear K; apply awp_cond; (focus (simp only [push_cast, seval]; rfl)))
      all_goals first | (intro hx; exfalso; revert hx l5; cases l2 <;> simp; done) | (intro hx; refine awp_skip ?_; refine mid_end [0, 1] _ rfl ?_; exact ⟨by simp, by simp, by simp [push_cast, seval], by simp [push_cast, seval], by simp [push_cast, seval], by simp [push_cast, seval]⟩)
  rintro _ rfl
  have s1 := mb sn rd (by omega) (by omega) (by omega) (by omega)
  have s2 := mb rn sd (by omega) (by omega) (by omega) (by omega)
  have v5 : IntKind.i64.wrap (sn * rd) = sn * rd := wrapI _ (by omega)
  have v6 : IntKind.i64.wrap (rn * sd) = rn * sd := wrapI _ (by omega)
  refine awp_seq ?_
  refine awpF_region ?_; intro K hK; simp only [push_cast, seval]
  refine CallK.pd (h22s) ?_; simp only [push_cast, seval]; (try simp (disch := omega) only [wrapI]); (repeat ((with_reducible refine And.intro ?_ ?_); (focus (first | omega | trivial | assumption | (intro _ hrow; obtain ⟨_, _, rfl⟩ := List.mem_map.1 hrow; rfl) | ((intros; repeat' apply And.intro) <;> first | omega | trivial | assumption | (intro _ hrow; obtain ⟨_, _, rfl⟩ := List.mem_map.1 hrow; rfl) | (simp_all; done) | (simp_all; omega))))))
  refine hK _ ?_; clear hK; clear K
  refine awp_mid (fun u => ∃ xn xd yn yd : Int, rateB xn xd = true ∧ rateB yn yd = true ∧ xn * yd ≤ yn * xd ∧ u = ⟨[(0, .d (.int .i64 N)), (1, .d (.int .i64 K)), (13, .ptr 0 0 0), (19, .ptr 1 0 0)], [.cells [.d (.int .i64 xn), .d (.int .i64 xd)], .cells [.d (.int .i64 yn), .d (.int .i64 yd)]]⟩) ?_ ?_
  · refine awp_seq ?_
    refine awpF_region ?_; intro K hK; simp only [push_cast, seval, v5, v6]; (try simp (disch := omega) only [wrapI]); (repeat ((with_reducible refine And.intro ?_ ?_); (focus (first | omega | trivial | assumption | (intro _ hrow; obtain ⟨_, _, rfl⟩ := List.mem_map.1 hrow; rfl) | ((intros; repeat' apply And.intro) <;> first | omega | trivial | assumption | (intro _ hrow; obtain ⟨_, _, rfl⟩ := List.mem_map.1 hrow; rfl) | (simp_all; done) | (simp_all; omega)))))); refine hK _ ?_; clear hK; clear K
    apply awp_cond; (focus (simp only [push_cast, seval]; rfl))
    · intro h1; (try simp only [decide_eq_true_eq, decide_eq_false_iff_not, Bool.not_eq_true', Bool.not_eq_false', Bool.and_eq_true, Bool.or_eq_true, Bool.not_eq_true] at h1)
      refine awpF_region ?_; intro K hK; simp only [push_cast, seval]; (try simp (disch := omega) only [wrapI]); (repeat ((with_reducible refine And.intro ?_ ?_); (focus (first | omega | trivial | assumption | (intro _ hrow; obtain ⟨_, _, rfl⟩ := List.mem_map.1 hrow; rfl) | ((intros; repeat' apply And.intro) <;> first | omega | trivial | assumption | (intro _ hrow; obtain ⟨_, _, rfl⟩ := List.mem_map.1 hrow; rfl) | (simp_all; done) | (simp_all; omega)))))); refine hK _ ?_; clear hK; clear K
      refine mid_end [1, 2] _ ⟨sn, sd, rn, rd, hs, hr, by omega, rfl⟩ ?_
      exact ⟨by simp, by simp, by simp [push_cast, seval], by simp [push_cast, seval], by simp [push_cast, seval], by simp [push_cast, seval]⟩
    · intro h1; (try simp only [decide_eq_true_eq, decide_eq_false_iff_not, Bool.not_eq_true', Bool.not_eq_false', Bool.and_eq_true, Bool.or_eq_true, Bool.not_eq_true] at h1)
      refine awp_skip ?_
      refine mid_end [1, 2] _ ⟨rn, rd, sn, sd, hr, hs, by omega, rfl⟩ ?_
      exact ⟨by simp, by simp, by simp [push_cast, seval], by simp [push_cast, seval], by simp [push_cast, seval], by simp [push_cast, seval]⟩
  rintro _ ⟨xn, xd, yn, yd, hx, hy, hxy, rfl⟩
  have f1 : fairB N K = true := by rw [fairB_iff]; omega
  have f2 : fairB N (K + 1) = true := by rw [fairB_iff]; omega
  have d1 := p15 N K xn xd 30
  have d2 := p15 N K yn yd 30
  have d3 := p15 N (K + 1) xn xd 30
  rw [show digOk N K xn xd 30 = true by unfold digOk; rw [hx, f1]; rfl] at d1
  rw [show digOk N K yn yd 30 = true by unfold digOk; rw [hy, f1]; rfl] at d2
  rw [show digOk N (K + 1) xn xd 30 = true by unfold digOk; rw [hx, f2]; rfl] at d3
  simp only [if_true] at d1 d2 d3
  obtain ⟨g1, g2, g3, g4⟩ := rateB_iff.1 hx
  obtain ⟨o1, o2, o3, o4⟩ := rateB_iff.1 hy
  have ex : xn.toNat + (xd - xn).toNat = xd.toNat := by omega
  have ey : yn.toNat + (yd - yn).toNat = yd.toNat := by omega
  have lx := fun j => lo_le xn.toNat (xd - xn).toNat N.toNat j
  have ly := fun j => lo_le yn.toNat (yd - yn).toNat N.toNat j
  rw [ex] at lx
  rw [ey] at ly
  have px : 0 < xd.toNat ^ N.toNat := Nat.pow_pos (by omega)
  have py : 0 < yd.toNat ^ N.toNat := Nat.pow_pos (by omega)
  have hrate := lo_rate (p := xn.toNat) (q := (xd - xn).toNat) (p' := yn.toNat) (q' := (yd - yn).toNat) (by
    rw [ex, ey]
    have h := Int.toNat_le_toNat hxy
    rwa [Int.toNat_mul (by omega) (by omega), Int.toNat_mul (by omega) (by omega)] at h) N.toNat (K.toNat + 1)
  rw [ex, ey] at hrate
  have b1 : Op.bytesLess (digS N K xn xd 30).toList (digS N K yn yd 30).toList = false := digT_less px py (lx _) (ly _) hrate
  have b2 : Op.bytesLess (digS N (K + 1) xn xd 30).toList (digS N K xn xd 30).toList = false := digT_less px px (lx _) (lx _) (Nat.mul_le_mul_right _ (lo_mono _ _ _ (by omega)))
  have b3 : (digS N K xn xd 30).size = 32 := digT_size _ 30 _
  generalize digS N K xn xd 30 = t1 at d1 b1 b2 b3
  generalize digS N K yn yd 30 = t2 at d2 b1
  generalize digS N (K + 1) xn xd 30 = t3 at d3 b2
  refine awp_seq ?_
  refine awpF_region ?_; intro K hK; simp only [push_cast, seval]
  refine CallK.pd (d1) ?_; simp only [push_cast, seval]; (try simp (disch := omega) only [wrapI]); (repeat ((with_reducible refine And.intro ?_ ?_); (focus (first | omega | trivial | assumption | (intro _ hrow; obtain ⟨_, _, rfl⟩ := List.mem_map.1 hrow; rfl) | ((intros; repeat' apply And.intro) <;> first | omega | trivial | assumption | (intro _ hrow; obtain ⟨_, _, rfl⟩ := List.mem_map.1 hrow; rfl) | (simp_all; done) | (simp_all; omega))))))
  refine hK _ ?_; clear hK; clear K
  refine awp_seq ?_
  refine awpF_region ?_; intro K hK; simp only [push_cast, seval]
  refine CallK.pd (d2) ?_; simp only [push_cast, seval]; (try simp (disch := omega) only [wrapI]); (repeat ((with_reducible refine And.intro ?_ ?_); (focus (first | omega | trivial | assumption | (intro _ hrow; obtain ⟨_, _, rfl⟩ := List.mem_map.1 hrow; rfl) | ((intros; repeat' apply And.intro) <;> first | omega | trivial | assumption | (intro _ hrow; obtain ⟨_, _, rfl⟩ := List.mem_map.1 hrow; rfl) | (simp_all; done) | (simp_all; omega))))))
  refine hK _ ?_; clear hK; clear K
  refine awp_seq ?_
  refine awpF_region ?_; intro K hK; simp only [push_cast, seval, w2]
  refine CallK.pd (d3) ?_; simp only [push_cast, seval]; (try simp (disch := omega) only [wrapI]); (repeat ((with_reducible refine And.intro ?_ ?_); (focus (first | omega | trivial | assumption | (intro _ hrow; obtain ⟨_, _, rfl⟩ := List.mem_map.1 hrow; rfl) | ((intros; repeat' apply And.intro) <;> first | omega | trivial | assumption | (intro _ hrow; obtain ⟨_, _, rfl⟩ := List.mem_map.1 hrow; rfl) | (simp_all; done) | (simp_all; omega))))))
  refine hK _ ?_; clear hK; clear K
  refine awp_seq ?_
  refine awpF_region ?_; intro K hK; simp only [push_cast, seval, b1, b2, b3]
  refine CallK.pg (fun _ => p19) ?_; simp only [push_cast, seval]; (try simp (disch := omega) only [wrapI]); (repeat ((with_reducible refine And.intro ?_ ?_); (focus (first | omega | trivial | assumption | (intro _ hrow; obtain ⟨_, _, rfl⟩ := List.mem_map.1 hrow; rfl) | ((intros; repeat' apply And.intro) <;> first | omega | trivial | assumption | (intro _ hrow; obtain ⟨_, _, rfl⟩ := List.mem_map.1 hrow; rfl) | (simp_all; done) | (simp_all; omega))))))
  refine hK _ ?_; clear hK; clear K
  refine awp_ret ?_; (repeat (first | refine then_ret ?_ | refine inblock_ret ?_)); refine fin_of (by simp only [push_cast, seval]; first | done | rfl) (by first | trivial | first | omega | trivial | assumption | (intro _ hrow; obtain ⟨_, _, rfl⟩ := List.mem_map.1 hrow; rfl) | ((intros; repeat' apply And.intro) <;> first | omega | trivial | assumption | (intro _ hrow; obtain ⟨_, _, rfl⟩ := List.mem_map.1 hrow; rfl) | (simp_all; done) | (simp_all; omega))) ?_
  rfl
end Go.Aw
