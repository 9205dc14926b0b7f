/-
  What CloudShifts answers. Conditions: none.
-/
import Derived.Test.YtecindhbaekncaaPxH13
namespace Go.Aw
set_option linter.unusedSimpArgs false
set_option linter.unusedVariables false
open Go.RowKit Go.Proofs Go.Rg

set_option maxRecDepth 100000 in
set_option maxHeartbeats 2000000 in
theorem p13 (nums : List Int) (x0 y0 g0 s0 : Int) : PD Try.prog 13 [.sl (nums.map encI), .agg [.int .i64 x0, .int .i64 y0], .int .i64 g0, .int .i64 s0] (.d (.bool true)) := by
  have hx : -1000 ≤ x0.tmod 1001 ∧ x0.tmod 1001 ≤ 1000 := by
    rw [Int.tmod_eq_emod]
    have h1 := Int.emod_nonneg x0 (show (1001 : Int) ≠ 0 by omega)
    have h2 := Int.emod_lt_of_pos x0 (show (0 : Int) < 1001 by omega)
    split <;> omega
  have hy : -1000 ≤ y0.tmod 1001 ∧ y0.tmod 1001 ≤ 1000 := by
    rw [Int.tmod_eq_emod]
    have h1 := Int.emod_nonneg y0 (show (1001 : Int) ≠ 0 by omega)
    have h2 := Int.emod_lt_of_pos y0 (show (0 : Int) < 1001 by omega)
    split <;> omega
  have hg1 := Int.emod_nonneg g0 (show (2001 : Int) ≠ 0 by omega)
  have hg2 := Int.emod_lt_of_pos g0 (show (0 : Int) < 2001 by omega)
  have hs1 := Int.emod_nonneg s0 (show (51 : Int) ≠ 0 by omega)
  have hs2 := Int.emod_lt_of_pos s0 (show (0 : Int) < 51 by omega)
  refine pd_of (fn := Try.f13) [.tmp 8] (by kernel_rfl) rfl (by kernel_rfl) (Nat.le_of_ble_eq_true rfl) (by kernel_rfl) rfl rfl ?_
  refine awp_seq ?_
  refine awpF_region ?_; intro K hK; simp only [push_cast, seval]; (try simp (disch := omega) only [wrapI]); (repeat ((with_reducible refine And.intro ?_ ?_); (focus (exact ob1)))); refine hK _ ?_; clear hK; clear K
  refine awp_mid (fun u => u = ⟨[(0, .d (.sl ((nums.take 30).map encI))), (2, .d (.int .i64 g0)), (3, .d (.int .i64 s0)), (5, .ptr 0 0 0)], [.cells [.d (.int .i64 x0), .d (.int .i64 y0)]]⟩) ?_ ?_
  ·
    refine awp_seq ?_
    refine awpF_region ?_; intro K hK; simp only [push_cast, seval]; (try simp (disch := omega) only [wrapI]); (repeat ((with_reducible refine And.intro ?_ ?_); (focus (exact ob1)))); refine hK _ ?_; clear hK; clear K
    apply awp_cond; (focus (simp only [push_cast, seval]; rfl))
    · intro h1; (try simp only [decide_eq_true_eq, decide_eq_false_iff_not, Bool.not_eq_true', Bool.not_eq_false', Bool.and_eq_true, Bool.or_eq_true, Bool.not_eq_true] at h1)
      have hs : (nums.map encI).take 30 = (nums.take 30).map encI := (List.map_take ..).symm
      refine awpF_region ?_; intro K hK; simp only [push_cast, seval, hs, List.drop_zero]
      refine ⟨by omega, ?_, ?_⟩
      · intro row hr
        obtain ⟨n, _, rfl⟩ := List.mem_map.1 hr; rfl
      refine hK _ ?_; clear hK; clear K
      refine mid_end [0] _ rfl ?_
      exact ⟨by simp, by simp, by simp [push_cast, seval], by simp [push_cast, seval], by simp [push_cast, seval], by simp [push_cast, seval]⟩
    · intro h1; (try simp only [decide_eq_true_eq, decide_eq_false_iff_not, Bool.not_eq_true', Bool.not_eq_false', Bool.and_eq_true, Bool.or_eq_true, Bool.not_eq_true] at h1)
      refine awp_skip ?_
      refine mid_end [0] _ rfl ?_
      rw [List.take_of_length_le (l := nums) (by omega)]
      exact ⟨by simp, by simp, by simp [push_cast, seval], by simp [push_cast, seval], by simp [push_cast, seval], by simp [push_cast, seval]⟩
  rintro _ rfl
  have hnl : (nums.take 30).length ≤ 30 := by simp; omega
  generalize nums.take 30 = nums' at hnl ⊢
  refine awp_seq ?_
  refine awpF_region ?_; intro K hK; simp only [push_cast, seval]
  (repeat ((with_reducible refine And.intro ?_ ?_); (focus (exact ob1))))
  refine CallK.pd (p31 nums' 3000 (by omega) (by omega)) ?_; simp only [push_cast, seval, ofD]; (repeat ((with_reducible refine And.intro ?_ ?_); (focus (exact ob1))))
  refine hK _ ?_; clear hK; clear K
  have hla := (cloudOf_len 3000 nums').2
  have hca := cloudOf_check (span := 3000) (by omega) (by omega) nums'
  have hsm : smallP (cloudOf 3000 nums') := fun p hp => by
    obtain ⟨i, hi⟩ := List.getElem?_of_mem hp
    exact cloud_fair (span := 3000) (by omega) hi
  generalize cloudOf 3000 nums' = l at hla hca hsm ⊢
  refine awp_seq ?_
  refine awpF_region ?_; intro K hK; simp only [push_cast, seval]; (try simp (disch := omega) only [wrapI]); (repeat ((with_reducible refine And.intro ?_ ?_); (focus (exact ob1)))); refine hK _ ?_; clear hK; clear K
  generalize x0.tmod 1001 = x at hx ⊢
  generalize y0.tmod 1001 = y at hy ⊢
  refine awp_seq ?_
  refine awpF_region ?_; intro K hK; simp only [push_cast, seval]
  (repeat ((with_reducible refine And.intro ?_ ?_); (focus (exact ob1))))
  refine CallK.pd (p32 _ _ (by omega) (by omega)) ?_; simp only [push_cast, seval]; (try simp (disch := omega) only [wrapI]); (repeat ((with_reducible refine And.intro ?_ ?_); (focus (exact ob1))))
  refine CallK.pd (p32 _ _ (by omega) (by omega)) ?_; simp only [push_cast, seval]; (try simp (disch := omega) only [wrapI]); (repeat ((with_reducible refine And.intro ?_ ?_); (focus (exact ob1))))
  refine hK _ ?_; clear hK; clear K
  generalize g0 % 2001 = gap at hg1 hg2 ⊢
  generalize s0 % 51 = s at hs1 hs2 ⊢
  have hcm := check_sh hca hsm hx hy
  have h23 := p23 l x y
  rw [shifts_there hca hsm hx hy] at h23
  have h23b := p23 (l.map (sh x y)) (-x) (-y)
  rw [shifts_back hca hsm hx hy] at h23b
  obtain ⟨gs, hgs, hform⟩ := segs_ex l gap
  obtain ⟨hgm, hem⟩ := segs_sh hca hsm hx hy hgs
  have hse : segErr l gap = 0 := by
    have h1 : ¬ (gap < 0 ∨ gap > 33554432) := by omega
    simp [segErr, hca, h1]
  rw [hse] at hem
  have h17 := p17s hgs
  have h17m := p17s hgm
  rw [hse] at h17
  rw [hem] at h17m
  have hgsm : gs.length ≤ 1000000 ∧ ∀ g, g ∈ gs → g.length ≤ 1000000 := by
    rcases hform with rfl | ⟨f, rfl⟩
    · exact ⟨by simp, by simp⟩
    · have := groups_small (f := f) (n := l.length)
      exact ⟨by omega, fun g hg => by have := this.2 g hg; omega⟩
  obtain ⟨H, hH⟩ := isHull_ex (l.map ptS)
  have hHm : isHull ((l.map (sh x y)).map ptS) (H.map (shS (x, y))) := by
    rw [map_sh]
    exact isHull_sh _ hH
  have h49 := p49 l H hH
  have h49m := p49 (l.map (sh x y)) _ hHm
  rw [if_pos hca] at h49
  rw [if_pos hcm] at h49m
  have hHl := isHull_len hH
  rw [List.length_map] at hHl
  have hf := cloud_fairS hca
  have hfm := cloud_fairS hcm
  have hc1 := corners_of hH hf (by omega)
  have hc2 := corners_of hHm hfm (by rw [List.length_map]; omega)
  have h52 := p52 H (by omega)
  have h52m := p52 (H.map (shS (x, y))) (by rw [List.length_map]; omega)
  rw [area_shV (S := l.map ptS) hc1 hc2] at h52m
  have hHf : ∀ q, q ∈ H → fairS q = true := fun q hq => hf q (isHull_sub hH q hq)
  have hwb : 0 ≤ winV x y ∧ winV x y ≤ 1000 := by unfold winV; omega
  have hlm : (l.map (sh x y)).length = l.length := by simp
  have hok : RegOk l (l.map (sh x y)) (winV x y) s := ⟨hca, hcm, by omega, by omega, hwb.1, by omega, hs1, by omega⟩
  have herr : regErr l (l.map (sh x y)) (winV x y) s = 0 := by
    have h1 : ¬ (60 < l.length ∨ 60 < (l.map (sh x y)).length) := by omega
    have h2 : ¬ (winV x y < 0 ∨ 2000 < winV x y ∨ s < 0 ∨ 2000 < s) := by omega
    simp only [regErr, hca, hcm, h1, h2, ne_eq, not_true_eq_false, if_false]
  have hall := reg_all (l := l) (x := x) (y := y) hs1
  have h27 := p27 l (l.map (sh x y)) (winV x y) s
  rw [show regOut l (l.map (sh x y)) (winV x y) s = (regBest l (l.map (sh x y)) (winV x y) s, cN l (l.map (sh x y)) s (regBest l (l.map (sh x y)) (winV x y) s), 0) by rw [regOut, if_pos herr], hall] at h27
  have hbin : inW (winV x y) (regBest l (l.map (sh x y)) (winV x y) s) := cands_bnd hwb.1 (regBest_best l (l.map (sh x y)) (winV x y) s).1
  have hmb := hok.match hbin
  rw [hall] at hmb
  have hwin : winV x y = max (max (max x (-x)) y) (-y) := rfl
  have h20 := p20 l l (by omega)
  have h19 := p19 gs gs hgsm.1 hgsm.2
  clear hok herr hall hHm hH hgs hgm hform hf hfm hca hcm
  generalize regBest l (l.map (sh x y)) (winV x y) s = be at h27 hbin hmb
  obtain ⟨bx, by'⟩ := be
  simp only [inW] at hbin
  have h29 := p29 l (l.map (sh x y)) bx by' s
  rw [hmb] at h29
  simp only [regV, spV] at h27
  have hwx : IntKind.i64.wrap (0 - x) = -x := by rw [wrapI _ (by omega)]; omega
  have hwy : IntKind.i64.wrap (0 - y) = -y := by rw [wrapI _ (by omega)]; omega
  generalize winV x y = w at *
  have hww : IntKind.i64.wrap (0 - w) = -w := by rw [wrapI _ (by omega)]; omega
  have b1 : decide (bx ≤ w) = true := decide_eq_true hbin.2.1
  have b2 : decide (bx ≥ -w) = true := decide_eq_true hbin.1
  have b3 : decide (by' ≤ w) = true := decide_eq_true hbin.2.2.2
  have b4 : decide (by' ≥ -w) = true := decide_eq_true hbin.2.2.1
  have hml : (l.map (sh x y)).map encP = (l.map (sh x y)).map encP := rfl
  generalize l.map (sh x y) = m at *
  generalize area2V H = ar at *
  show AWP _ _ _ _ _ _
  refine awp_seq ?_
  refine awpF_region ?_; intro K hK; simp only [push_cast, seval]
  (repeat ((with_reducible refine And.intro ?_ ?_); (focus (exact ob1))))
  refine CallK.pd (h23) ?_; simp only [push_cast, seval]; (try simp (disch := omega) only [wrapI]); (repeat ((with_reducible refine And.intro ?_ ?_); (focus (exact ob1))))
  refine hK _ ?_; clear hK; clear K
  refine awp_seq ?_
  refine awpF_region ?_; intro K hK; simp only [push_cast, seval, hwx, hwy]
  (repeat ((with_reducible refine And.intro ?_ ?_); (focus (exact ob1))))
  refine CallK.pd (h23b) ?_; simp only [push_cast, seval]; (try simp (disch := omega) only [wrapI]); (repeat ((with_reducible refine And.intro ?_ ?_); (focus (exact ob1))))
  refine hK _ ?_; clear hK; clear K
  refine awp_seq ?_
  refine awp_seq ?_
  refine awpF_region ?_; intro K hK; simp only [push_cast, seval, decide_true, beq_self_eq_true, bne_self_eq_false, cond_true, cond_false]
  (repeat ((with_reducible refine And.intro ?_ ?_); (focus (exact ob1))))
  refine CallK.pd h20 ?_; simp only [push_cast, seval, decide_true, beq_self_eq_true, bne_self_eq_false, cond_true, cond_false]; (repeat ((with_reducible refine And.intro ?_ ?_); (focus (exact ob1))))
  refine hK _ ?_; clear hK; clear K
  apply awp_cond; (focus (simp only [push_cast, seval]; rfl))
  · intro h2; (try simp only [decide_eq_true_eq, decide_eq_false_iff_not, Bool.not_eq_true', Bool.not_eq_false', Bool.and_eq_true, Bool.or_eq_true, Bool.not_eq_true] at h2)
    cases h2
  intro h2; (try simp only [decide_eq_true_eq, decide_eq_false_iff_not, Bool.not_eq_true', Bool.not_eq_false', Bool.and_eq_true, Bool.or_eq_true, Bool.not_eq_true] at h2)
  refine awp_skip ?_
  refine awp_seq ?_
  refine awpF_region ?_; intro K hK; simp only [push_cast, seval]
  (repeat ((with_reducible refine And.intro ?_ ?_); (focus (exact ob1))))
  refine CallK.pd (h17) ?_; simp only [push_cast, seval]; (try simp (disch := omega) only [wrapI]); (repeat ((with_reducible refine And.intro ?_ ?_); (focus (exact ob1))))
  refine hK _ ?_; clear hK; clear K
  refine awp_seq ?_
  refine awpF_region ?_; intro K hK; simp only [push_cast, seval]
  (repeat ((with_reducible refine And.intro ?_ ?_); (focus (exact ob1))))
  refine CallK.pd (h17m) ?_; simp only [push_cast, seval]; (try simp (disch := omega) only [wrapI]); (repeat ((with_reducible refine And.intro ?_ ?_); (focus (exact ob1))))
  refine hK _ ?_; clear hK; clear K
  refine awp_seq ?_
  refine awp_seq ?_
  refine awpF_region ?_; intro K hK; simp only [push_cast, seval, decide_true, beq_self_eq_true, bne_self_eq_false, cond_true, cond_false]
  (repeat ((with_reducible refine And.intro ?_ ?_); (focus (exact ob1))))
  refine CallK.pd h19 ?_; simp only [push_cast, seval, decide_true, beq_self_eq_true, bne_self_eq_false, cond_true, cond_false]; (repeat ((with_reducible refine And.intro ?_ ?_); (focus (exact ob1))))
  refine hK _ ?_; clear hK; clear K
  apply awp_cond; (focus (simp only [push_cast, seval]; rfl))
  · intro h2; (try simp only [decide_eq_true_eq, decide_eq_false_iff_not, Bool.not_eq_true', Bool.not_eq_false', Bool.and_eq_true, Bool.or_eq_true, Bool.not_eq_true] at h2)
    cases h2
  intro h2; (try simp only [decide_eq_true_eq, decide_eq_false_iff_not, Bool.not_eq_true', Bool.not_eq_false', Bool.and_eq_true, Bool.or_eq_true, Bool.not_eq_true] at h2)
  refine awp_skip ?_
  refine awp_seq ?_
  refine awpF_region ?_; intro K hK; simp only [push_cast, seval]
  (repeat ((with_reducible refine And.intro ?_ ?_); (focus (exact ob1))))
  refine CallK.pd h49 ?_; simp only [push_cast, seval, ofD]; (repeat ((with_reducible refine And.intro ?_ ?_); (focus (exact ob1))))
  refine CallK.pd h49m ?_; simp only [push_cast, seval, ofD]; (repeat ((with_reducible refine And.intro ?_ ?_); (focus (exact ob1))))
  refine hK _ ?_; clear hK; clear K
  refine awp_seq ?_
  refine awp_seq ?_
  refine awpF_region ?_; intro K hK; simp only [push_cast, seval, decide_true, beq_self_eq_true, bne_self_eq_false, cond_true, cond_false]
  (repeat ((with_reducible refine And.intro ?_ ?_); (focus (exact ob1))))
  refine CallK.pd h52 ?_; simp only [push_cast, seval, decide_true, beq_self_eq_true, bne_self_eq_false, cond_true, cond_false]; (repeat ((with_reducible refine And.intro ?_ ?_); (focus (exact ob1))))
  refine CallK.pd h52m ?_; simp only [push_cast, seval, decide_true, beq_self_eq_true, bne_self_eq_false, cond_true, cond_false]; (repeat ((with_reducible refine And.intro ?_ ?_); (focus (exact ob1))))
  refine hK _ ?_; clear hK; clear K
  apply awp_cond; (focus (simp only [push_cast, seval]; rfl))
  · intro h2; (try simp only [decide_eq_true_eq, decide_eq_false_iff_not, Bool.not_eq_true', Bool.not_eq_false', Bool.and_eq_true, Bool.or_eq_true, Bool.not_eq_true] at h2)
    cases h2
  intro h2; (try simp only [decide_eq_true_eq, decide_eq_false_iff_not, Bool.not_eq_true', Bool.not_eq_false', Bool.and_eq_true, Bool.or_eq_true, Bool.not_eq_true] at h2)
  refine awp_skip ?_
  refine awp_seq ?_
  refine awp_seq ?_
  refine awpF_region ?_; intro K hK; simp only [push_cast, seval]; (try simp (disch := omega) only [wrapI]); (repeat ((with_reducible refine And.intro ?_ ?_); (focus (exact ob1)))); refine hK _ ?_; clear hK; clear K
  refine awp_block ?_
  refine awp_loopP (α := Nat) (st := fun i => ⟨[(3, .d (.int .i64 s)), (5, .ptr 0 0 0), (9, .d (.sl (l.map encP))), (10, .d (.sl (m.map encP))), (18, .d (.sl (H.map encS))), (19, .d (.sl ((H.map (shS (x, y))).map encS))), (20, .d (.int .i64 i))], [.cells [.d (.int .i64 x), .d (.int .i64 y)]]⟩)
    (inv := fun i => i ≤ H.length) (μ := fun i => H.length - i) (x0 := 0) (r0 := [0]) ?_ ?_ ?_
  · exact Nat.zero_le _
  · exact ⟨by simp, by simp, by simp [push_cast, seval], by simp [push_cast, seval], by simp [push_cast, seval], by simp [push_cast, seval]⟩
  · intro i hi
    refine awp_seq ?_
    refine awp_seq ?_
    refine awpF_region ?_; intro K hK; simp only [push_cast, seval]; (try simp (disch := omega) only [wrapI]); (repeat ((with_reducible refine And.intro ?_ ?_); (focus (exact ob1)))); refine hK _ ?_; clear hK; clear K
    apply awp_cond; (focus (simp only [push_cast, seval]; rfl))
    · intro h3; (try simp only [decide_eq_true_eq, decide_eq_false_iff_not, Bool.not_eq_true', Bool.not_eq_false', Bool.and_eq_true, Bool.or_eq_true, Bool.not_eq_true] at h3)
      have hlt : i < H.length := by omega
      have g1 := get_at hlt
      have g2 := get_at (h := H.map (shS (x, y))) (i := i) (by rw [List.length_map]; exact hlt)
      have hfa := hHf (atS H i) (by rw [atS_get hlt]; exact List.getElem_mem hlt)
      rw [atS_map hlt] at g2
      simp only [shS] at g2
      have hq1 : ∀ row, row ∈ H.map encS → row.length = 2 := fun row hr => by obtain ⟨_, _, rfl⟩ := List.mem_map.1 hr; rfl
      have hq2 : ∀ row, row ∈ (H.map (shS (x, y))).map encS → row.length = 2 := fun row hr => by obtain ⟨_, _, rfl⟩ := List.mem_map.1 hr; rfl
      have hsl : ((H.map (shS (x, y))).map encS).length = H.length := by simp
      generalize atS H i = q at g1 g2 hfa
      have hfb := fair_iff.1 hfa
      have wa : IntKind.i64.wrap (q.1 + x) = q.1 + x := wrapI _ (by omega)
      have wb : IntKind.i64.wrap (q.2 + y) = q.2 + y := wrapI _ (by omega)
      generalize (H.map (shS (x, y))).map encS = RM at g2 hq2 hsl ⊢
      refine awp_skip ?_
      refine awp_seq ?_
      refine awp_block ?_
      refine awp_seq ?_
      refine awpF_draw [0,1,2,3,4,5,6,7,8,9,10,11,12,13,14,15,16,17,18,19,20,21] (by kernel_rfl) (by kernel_rfl) rfl ?_; intro K hK; simp only [push_cast, seval, g1, g2, wa, wb, hsl, Int.toNat_natCast, decide_true, beq_self_eq_true, bne_self_eq_false, cond_true, cond_false]
      refine ⟨by omega, by omega, hq2, by omega, by omega, hq1, by omega, by omega, hq1, ?_⟩
      refine hK _ ?_; clear hK; clear K
      apply awp_cond; (focus (simp only [push_cast, seval]; rfl))
      · intro h4; (try simp only [decide_eq_true_eq, decide_eq_false_iff_not, Bool.not_eq_true', Bool.not_eq_false', Bool.and_eq_true, Bool.or_eq_true, Bool.not_eq_true] at h4)
        cases h4
      intro h4; (try simp only [decide_eq_true_eq, decide_eq_false_iff_not, Bool.not_eq_true', Bool.not_eq_false', Bool.and_eq_true, Bool.or_eq_true, Bool.not_eq_true] at h4)
      refine awp_skip ?_
      refine inblock_norm ?_
      refine awpF_region ?_; intro K hK; simp only [push_cast, seval]; (try simp (disch := omega) only [wrapI]); (repeat ((with_reducible refine And.intro ?_ ?_); (focus (exact ob1)))); refine hK _ ?_; clear hK; clear K
      refine round_endG (i + 1) [0] ⟨by omega, by omega, ?_⟩
      exact ⟨by simp, by simp, by simp [push_cast, seval], by simp [push_cast, seval], by simp [push_cast, seval], by simp [push_cast, seval]⟩
    · intro h3; (try simp only [decide_eq_true_eq, decide_eq_false_iff_not, Bool.not_eq_true', Bool.not_eq_false', Bool.and_eq_true, Bool.or_eq_true, Bool.not_eq_true] at h3)
      refine awp_exit ?_; (repeat (first | refine then_exit ?_ | refine inblock_other (by decide) ?_)); refine inblock_same ?_
      refine awp_seq ?_
      refine awpF_region ?_; intro K hK; simp only [push_cast, seval, hwx, hwy]
      rw [← hwin]
      (repeat ((with_reducible refine And.intro ?_ ?_); (focus (exact ob1))))
      refine hK _ ?_; clear hK; clear K
      refine awp_seq ?_
      refine awpF_region ?_; intro K hK; simp only [push_cast, seval]
      (repeat ((with_reducible refine And.intro ?_ ?_); (focus (exact ob1))))
      refine CallK.pd (h27) ?_; simp only [push_cast, seval]; (try simp (disch := omega) only [wrapI]); (repeat ((with_reducible refine And.intro ?_ ?_); (focus (exact ob1))))
      refine hK _ ?_; clear hK; clear K
      refine awp_seq ?_
      refine awpF_region ?_; intro K hK; simp only [push_cast, seval, decide_true, beq_self_eq_true, bne_self_eq_false, cond_true, cond_false]
      (repeat ((with_reducible refine And.intro ?_ ?_); (focus (exact ob1))))
      refine CallK.pd h29 ?_; simp only [push_cast, seval, hww, b1, b2, b3, b4, decide_true, beq_self_eq_true, bne_self_eq_false, cond_true, cond_false]; (repeat ((with_reducible refine And.intro ?_ ?_); (focus (exact ob1))))
      refine CallK.pd p15 ?_; simp only [push_cast, seval, hww, b1, b2, b3, b4, decide_true, beq_self_eq_true, bne_self_eq_false, cond_true, cond_false]; (repeat ((with_reducible refine And.intro ?_ ?_); (focus (exact ob1))))
      refine hK _ ?_; clear hK; clear K
      refine awp_ret ?_; (repeat (first | refine then_ret ?_ | refine inblock_ret ?_)); refine fin_of (by simp only [push_cast, seval]; first | done | rfl) ob1 ?_
      rfl
end Go.Aw
