/-
  ReleaseReports: its walk. No condition.
-/
import Derived.Test.YtmmnjelmahcbaaaGreatPxZ7
import Derived.Test.YtmmnjelmahcbaaaGreatPkG
import Derived.Test.YtmmnjelmahcbaaaGreatPkD
namespace Go.Aw
set_option linter.unusedSimpArgs false
set_option linter.unusedVariables false
open Go.RowKit Go.Proofs Go.Nt Go.Rl

theorem samB_self (s : Sta) : samB s s = true := by
  unfold samB
  simp
def gG (s : Sta) : Stg := s.ps[s.st.toNat]?.getD ⟨0, 0, 0, 0, 0, 0, 0, 0⟩
theorem gG_ok (s : Sta) : s.ps[s.st.toNat]?.getD (gG s) = gG s := by
  unfold gG
  cases s.ps[s.st.toNat]? <;> rfl
theorem jud_ps (s : Sta) (bad : Bool) (g : Stg) (h : runC s = 0) : (judS (cntS s bad) g).ps = s.ps ∧ 1 ≤ (judS (cntS s bad) g).ph ∧ (judS (cntS s bad) g).ph ≤ 3 := by
  obtain ⟨_, hp⟩ := runC_zero h
  unfold judS
  split
  · exact ⟨rfl, by show (1 : Int) ≤ 3; decide, by show (3 : Int) ≤ 3; decide⟩
  · split
    · split
      · exact ⟨rfl, by show (1 : Int) ≤ 2; decide, by show (2 : Int) ≤ 3; decide⟩
      · exact ⟨rfl, by show 1 ≤ s.ph; omega, by show s.ph ≤ 3; omega⟩
    · split
      · exact ⟨rfl, by show (1 : Int) ≤ 3; decide, by show (3 : Int) ≤ 3; decide⟩
      · exact ⟨rfl, by show 1 ≤ s.ph; omega, by show s.ph ≤ 3; omega⟩
theorem repC_run {s : Sta} {c : Int} (h : repC s c = 0) : runC s = 0 := by
  unfold repC at h
  split at h
  · assumption
  · contradiction
def encT (b : Bool) : List D := [.bool b]
set_option maxRecDepth 10000 in
set_option maxHeartbeats 1000000 in
theorem q4 (s0 : Sta) (vs : List Int) (fs : List Bool) (hfl : fs.length ≤ maxLen) (hp1 : -9223372036854775808 ≤ s0.ph) (hp2 : s0.ph ≤ 9223372036854775807) : PD Tryz.prog 4 [.agg (encS s0), .sl (vs.map encI), .sl (fs.map encT)] (.d (.bool true)) := by
  have h7 := p19
  by_cases hl : s0.ps.length ≤ 8 ∧ vs.length ≤ 12
  · obtain ⟨hl1, hl2⟩ := hl
    have h16 := q16 s0 (by omega)
    unfold encS at h16
    unfold encS
    refine pd_of (fn := Tryz.f4) [.tmp 6] (by kernel_rfl) rfl (by kernel_rfl) (Nat.le_of_ble_eq_true rfl) (by kernel_rfl) rfl rfl ?_
    refine awp_seq ?_
    refine awpF_region ?_; intro K hK; simp only [push_cast, seval]; (try simp (disch := omega) only [wrapI]); (repeat ((with_reducible refine And.intro ?_ ?_); (focus (exact ob1)))); refine hK _ ?_; clear hK; clear K
    refine awp_seq ?_
    refine awp_seq ?_
    refine awpF_region ?_; intro K hK; simp only [push_cast, seval, bif_or]
    repeat (refine ⟨fun h => by rw [h]; rfl, ?_⟩)
    refine hK _ ?_; clear hK; clear K
    apply awp_cond; (focus (simp only [push_cast, seval]; rfl))
    · intro h1
      exfalso
      simp at h1
      omega
    intro h1
    clear h1
    refine awp_skip ?_
    refine awp_seq ?_
    refine awpF_drawP [0, 2] [1, 3, 4, 5] (DT.op 6 (DT.op 7 DT.nil)) (by kernel_rfl) (by kernel_rfl) (by kernel_rfl) ?_; intro K hK; simp only [push_cast, seval]; (repeat ((with_reducible refine And.intro ?_ ?_); (focus (exact ob1)))); refine ParK.pd (h16) (by first | rfl | simp [V.bel, V.belL]) ?_; simp only [push_cast, seval]; (try simp (disch := omega) only [wrapI]); (repeat ((with_reducible refine And.intro ?_ ?_); (focus (exact ob1)))); refine ParK.pd (h16) (by first | rfl | simp [V.bel, V.belL]) ?_; simp only [push_cast, seval]; (try simp (disch := omega) only [wrapI]); (repeat ((with_reducible refine And.intro ?_ ?_); (focus (exact ob1)))); refine hK _ ?_; clear hK; clear K
    refine awp_seq ?_
    refine awp_seq ?_
    refine awpF_region ?_; intro K hK; simp only [push_cast, seval]; (try simp (disch := omega) only [wrapI]); (repeat ((with_reducible refine And.intro ?_ ?_); (focus (exact ob1)))); refine hK _ ?_; clear hK; clear K
    refine awp_block ?_
    refine awp_loopP (α := Sta × Nat) (st := fun x => ⟨[(1, .d (.sl (vs.map encI))), (2, .d (.sl (fs.map encT))), (7, .ptr 0 0 0), (8, .ptr 1 0 0), (9, .d (.int .i64 x.2))], [.cells [.d (.int .i64 x.1.k), .d (.int .i64 x.1.ol), .d (.int .i64 x.1.nw), .d (.sl (x.1.ps.map encG)), .d (.int .i64 x.1.ph), .d (.int .i64 x.1.st), .d (.int .i64 x.1.gt), .d (.int .i64 x.1.bd), .d (.int .i64 x.1.al)], .cells [.d (.int .i64 x.1.k), .d (.int .i64 x.1.ol), .d (.int .i64 x.1.nw), .d (.sl (x.1.ps.map encG)), .d (.int .i64 x.1.ph), .d (.int .i64 x.1.st), .d (.int .i64 x.1.gt), .d (.int .i64 x.1.bd), .d (.int .i64 x.1.al)]]⟩) (inv := fun x => x.2 ≤ vs.length ∧ x.1.ps.length ≤ 8 ∧ -9223372036854775808 ≤ x.1.ph ∧ x.1.ph ≤ 9223372036854775807) (μ := fun x => vs.length - x.2) (x0 := (s0, 0)) (r0 := [1, 2]) ?_ ?_ ?_
    · exact ⟨Nat.zero_le _, hl1, hp1, hp2⟩
    · exact ⟨by simp, by simp, by simp [push_cast, seval], by simp [push_cast, seval], by simp [push_cast, seval], by simp [push_cast, seval]⟩
    rintro ⟨s, i⟩ ⟨hi, hsl, hs1, hs2⟩
    dsimp only at hi hsl hs1 hs2 ⊢
    have hn : s.ps.length ≤ 1000000 := by omega
    clear h16
    refine awp_seq ?_
    refine awp_seq ?_
    refine awpF_region ?_; intro K hK; simp only [push_cast, seval]; (try simp (disch := omega) only [wrapI]); (repeat ((with_reducible refine And.intro ?_ ?_); (focus (exact ob1)))); refine hK _ ?_; clear hK; clear K
    apply awp_cond; (focus (simp only [push_cast, seval]; rfl))
    · intro h3; (try simp only [decide_eq_true_eq, decide_eq_false_iff_not, Bool.not_eq_true', Bool.not_eq_false', Bool.and_eq_true, Bool.or_eq_true, Bool.not_eq_true] at h3)
      have hi2 : i < vs.length := by omega
      refine awp_skip ?_
      refine awp_mid (fun u => ∃ s2 : Sta, (s2.ps.length ≤ 8 ∧ -9223372036854775808 ≤ s2.ph ∧ s2.ph ≤ 9223372036854775807) ∧ u = ⟨[(1, .d (.sl (vs.map encI))), (2, .d (.sl (fs.map encT))), (7, .ptr 0 0 0), (8, .ptr 1 0 0), (9, .d (.int .i64 i))], [.cells [.d (.int .i64 s2.k), .d (.int .i64 s2.ol), .d (.int .i64 s2.nw), .d (.sl (s2.ps.map encG)), .d (.int .i64 s2.ph), .d (.int .i64 s2.st), .d (.int .i64 s2.gt), .d (.int .i64 s2.bd), .d (.int .i64 s2.al)], .cells [.d (.int .i64 s2.k), .d (.int .i64 s2.ol), .d (.int .i64 s2.nw), .d (.sl (s2.ps.map encG)), .d (.int .i64 s2.ph), .d (.int .i64 s2.st), .d (.int .i64 s2.gt), .d (.int .i64 s2.bd), .d (.int .i64 s2.al)]]⟩) ?_ ?_
      · refine awp_block ?_
        refine awp_mid (fun u => ∃ b : Bool, u = ⟨[(1, .d (.sl (vs.map encI))), (2, .d (.sl (fs.map encT))), (7, .ptr 0 0 0), (8, .ptr 1 0 0), (9, .d (.int .i64 i)), (10, .d (.bool b))], [.cells [.d (.int .i64 s.k), .d (.int .i64 s.ol), .d (.int .i64 s.nw), .d (.sl (s.ps.map encG)), .d (.int .i64 s.ph), .d (.int .i64 s.st), .d (.int .i64 s.gt), .d (.int .i64 s.bd), .d (.int .i64 s.al)], .cells [.d (.int .i64 s.k), .d (.int .i64 s.ol), .d (.int .i64 s.nw), .d (.sl (s.ps.map encG)), .d (.int .i64 s.ph), .d (.int .i64 s.st), .d (.int .i64 s.gt), .d (.int .i64 s.bd), .d (.int .i64 s.al)]]⟩) ?_ ?_
        · have hqT : ∀ row, row ∈ fs.map encT → row.length = 1 := fun row hr => by
            obtain ⟨_, _, rfl⟩ := List.mem_map.1 hr; rfl
          by_cases hf : fs.length > 0
          · have v1 : ((fs.length : Int) > 0) = True := eq_true (by omega)
            have hm : i % fs.length < fs.length := Nat.mod_lt _ hf
            have hmod : (i : Int).tmod (fs.length : Int) = ((i % fs.length : Nat) : Int) := rfl
            have hml := Nat.mod_le i fs.length
            have hw : IntKind.i64.wrap ((i % fs.length : Nat) : Int) = ((i % fs.length : Nat) : Int) := wrapI _ (by omega)
            have hnz : ((fs.length : Int) = 0) = False := eq_false (by omega)
            have gm : (fs.map encT)[i % fs.length]? = some (encT fs[i % fs.length]) := by rw [List.getElem?_map, List.getElem?_eq_getElem hm]; rfl
            generalize fs[i % fs.length] = b at gm
            clear hml
            generalize i % fs.length = m at hm hmod hw gm
            simp only [encT] at gm
            refine awpF_region ?_; intro K hK; simp only [push_cast, seval, v1, hmod, hw, gm, hnz, decide_true, Int.toNat_natCast]
            repeat (with_reducible refine And.intro ?_ ?_; (focus (first | exact hqT | omega | trivial)))
            refine hK _ ?_; clear hK; clear K
            refine mid_end [0, 1] _ ⟨b, rfl⟩ ?_
            exact ⟨by simp, by simp, by simp [push_cast, seval], by simp [push_cast, seval], by simp [push_cast, seval], by simp [push_cast, seval]⟩
          · obtain rfl : fs = [] := List.eq_nil_of_length_eq_zero (by omega)
            refine awpF_region ?_; intro K hK; simp only [push_cast, seval, List.length_nil, List.map_nil, List.getElem?_nil, Option.getD_none, List.getD_nil]
            (repeat ((with_reducible refine And.intro ?_ ?_); (focus (exact ob1))))
            refine hK _ ?_; clear hK; clear K
            refine mid_end [0, 1] _ ⟨false, rfl⟩ ?_
            exact ⟨by simp, by simp, by simp [push_cast, seval], by simp [push_cast, seval], by simp [push_cast, seval], by simp [push_cast, seval]⟩
        · rintro _ ⟨b, rfl⟩
          have gv : (vs.map encI)[i]? = some (encI vs[i]) := by rw [List.getElem?_map, List.getElem?_eq_getElem hi2]; rfl
          generalize vs[i] = v at gv
          simp only [encI] at gv
          have h16 := q16 s hn
          have h49 := p49 s v b (gG s) (gG_ok s) hn hs1 hs2
          have q49 := q19 s v b (gG s) (gG_ok s) hn
          have h13s := q13 s s hn hn
          rw [samB_self] at h13s
          unfold encS at h16 h13s
          by_cases hr : repC s v = 0
          · have hps := jud_ps s b (gG s) (repC_run hr)
            rw [hr, if_pos rfl] at h49 q49
            generalize judS (cntS s b) (gG s) = y at h49 q49 hps
            have h13 := q13 y y (by rw [hps.1]; omega) (by rw [hps.1]; omega)
            rw [samB_self] at h13
            unfold encS at h49 q49 h13
            refine awp_seq ?_
            refine awpF_region ?_; intro K hK; simp only [push_cast, seval]
            refine CallK.pd (h16) ?_; simp only [push_cast, seval]; (try simp (disch := omega) only [wrapI]); (repeat ((with_reducible refine And.intro ?_ ?_); (focus (exact ob1))))
            refine hK _ ?_; clear hK; clear K
            refine awp_seq ?_
            refine awpF_drawT (DT.op 0 (DT.op 1 (DT.op 2 (DT.op 3 (DT.op 4 (DT.op 5 (DT.or (DT.op 6 (DT.op 7 (DT.op 8 (DT.or (DT.op 9 (DT.op 10 (DT.op 11 (DT.op 12 DT.nil)))) (DT.op 10 (DT.or (DT.op 9 (DT.op 11 (DT.op 12 DT.nil))) (DT.op 11 (DT.op 9 (DT.op 12 DT.nil))))))))) (DT.op 10 (DT.op 6 (DT.op 7 (DT.op 8 (DT.or (DT.op 9 (DT.op 11 (DT.op 12 DT.nil))) (DT.op 11 (DT.op 9 (DT.op 12 DT.nil))))))))))))))) (by kernel_rfl) (by kernel_rfl) (by kernel_rfl) ?_; intro K hK; apply dt_close; (rotate_left; (intro fin; (focus (simp only [push_cast, seval, gv, Int.toNat_natCast]; (try simp (disch := omega) only [wrapI]); (repeat' (first | exact fin | (with_reducible refine And.intro ?_ ?_) | (refine CallK.pd (h49) ?_; simp only [push_cast, seval, gv, Int.toNat_natCast]; (try simp (disch := omega) only [wrapI])) | (refine CallK.pg (fun _ => h49) ?_; simp only [push_cast, seval, gv, Int.toNat_natCast]; (try simp (disch := omega) only [wrapI])) | exact ob1)))))); refine hK _ ?_; clear hK; clear K
            refine awp_seq ?_
            refine awpF_drawT (DT.op 0 (DT.op 1 (DT.op 2 (DT.op 3 (DT.op 4 (DT.op 5 (DT.or (DT.op 6 (DT.op 7 (DT.op 8 (DT.or (DT.op 9 (DT.op 10 (DT.op 11 (DT.op 12 DT.nil)))) (DT.op 10 (DT.or (DT.op 9 (DT.op 11 (DT.op 12 DT.nil))) (DT.op 11 (DT.op 9 (DT.op 12 DT.nil))))))))) (DT.op 10 (DT.op 6 (DT.op 7 (DT.op 8 (DT.or (DT.op 9 (DT.op 11 (DT.op 12 DT.nil))) (DT.op 11 (DT.op 9 (DT.op 12 DT.nil))))))))))))))) (by kernel_rfl) (by kernel_rfl) (by kernel_rfl) ?_; intro K hK; apply dt_close; (rotate_left; (intro fin; (focus (simp only [push_cast, seval, gv, Int.toNat_natCast]; (try simp (disch := omega) only [wrapI]); (repeat' (first | exact fin | (with_reducible refine And.intro ?_ ?_) | (refine CallK.pd (q49) ?_; simp only [push_cast, seval, gv, Int.toNat_natCast]; (try simp (disch := omega) only [wrapI])) | (refine CallK.pg (fun _ => q49) ?_; simp only [push_cast, seval, gv, Int.toNat_natCast]; (try simp (disch := omega) only [wrapI])) | exact ob1)))))); refine hK _ ?_; clear hK; clear K
            refine awp_seq ?_
            refine awp_seq ?_
            refine awpF_region ?_; intro K hK; simp only [push_cast, seval, bne_self_eq_false, Bool.not_false]
            refine CallK.pg (fun _ => h13) ?_
            simp only [push_cast, seval, bne_self_eq_false, Bool.not_false, Bool.not_true]
            (repeat ((with_reducible refine And.intro ?_ ?_); (focus (exact ob1))))
            refine CallK.pg (fun _ => h13s) ?_
            simp only [push_cast, seval, bne_self_eq_false, Bool.not_false, Bool.not_true]
            (repeat ((with_reducible refine And.intro ?_ ?_); (focus (exact ob1))))
            refine hK _ ?_; clear hK; clear K
            apply awp_cond; (focus (simp only [push_cast, seval]; rfl))
            · intro h9
              exact absurd h9 (by decide)
            intro h9
            clear h9
            refine awp_skip ?_
            refine awp_seq ?_
            refine awpF_region ?_; intro K hK; simp only [push_cast, seval]; (try simp (disch := omega) only [wrapI]); (repeat ((with_reducible refine And.intro ?_ ?_); (focus (exact ob1)))); refine hK _ ?_; clear hK; clear K
            apply awp_cond; (focus (simp only [push_cast, seval]; rfl))
            · intro h9
              clear h9
              refine awpF_drawT (DT.op 0 (DT.or (DT.op 1 (DT.op 2 (DT.op 3 DT.nil))) (DT.op 2 (DT.op 1 (DT.op 3 DT.nil))))) (by kernel_rfl) (by kernel_rfl) (by kernel_rfl) ?_; intro K hK; apply dt_close; (rotate_left; (intro fin; (focus (simp only [push_cast, seval]; (try simp (disch := omega) only [wrapI]); (repeat' (first | exact fin | (with_reducible refine And.intro ?_ ?_) | exact ob1)))))); refine hK _ ?_; clear hK; clear K
              refine inblock_norm (mid_end [0, 1] _ ⟨y, ⟨by rw [hps.1]; omega, by omega, by omega⟩, rfl⟩ ?_)
              exact ⟨by simp, by simp, by simp [push_cast, seval], by simp [push_cast, seval], by simp [push_cast, seval], by simp [push_cast, seval]⟩
            · intro h9
              exact absurd h9 (by decide)
          · have h13 := q13 ⟨0, 0, 0, [], 0, 0, 0, 0, 0⟩ ⟨0, 0, 0, [], 0, 0, 0, 0, 0⟩ (by decide) (by decide)
            rw [samB_self] at h13
            rw [if_neg hr] at h49 q49
            generalize repC s v = r at hr h49 q49
            unfold noSta at h49 q49
            unfold encS at h49 q49 h13
            dsimp only [List.map_nil] at h13
            refine awp_seq ?_
            refine awpF_region ?_; intro K hK; simp only [push_cast, seval]
            refine CallK.pd (h16) ?_; simp only [push_cast, seval]; (try simp (disch := omega) only [wrapI]); (repeat ((with_reducible refine And.intro ?_ ?_); (focus (exact ob1))))
            refine hK _ ?_; clear hK; clear K
            refine awp_seq ?_
            refine awpF_drawT (DT.op 0 (DT.op 1 (DT.op 2 (DT.op 3 (DT.op 4 (DT.op 5 (DT.or (DT.op 6 (DT.op 7 (DT.op 8 (DT.or (DT.op 9 (DT.op 10 (DT.op 11 (DT.op 12 DT.nil)))) (DT.op 10 (DT.or (DT.op 9 (DT.op 11 (DT.op 12 DT.nil))) (DT.op 11 (DT.op 9 (DT.op 12 DT.nil))))))))) (DT.op 10 (DT.op 6 (DT.op 7 (DT.op 8 (DT.or (DT.op 9 (DT.op 11 (DT.op 12 DT.nil))) (DT.op 11 (DT.op 9 (DT.op 12 DT.nil))))))))))))))) (by kernel_rfl) (by kernel_rfl) (by kernel_rfl) ?_; intro K hK; apply dt_close; (rotate_left; (intro fin; (focus (simp only [push_cast, seval, gv, Int.toNat_natCast]; (try simp (disch := omega) only [wrapI]); (repeat' (first | exact fin | (with_reducible refine And.intro ?_ ?_) | (refine CallK.pd (h49) ?_; simp only [push_cast, seval, gv, Int.toNat_natCast]; (try simp (disch := omega) only [wrapI])) | (refine CallK.pg (fun _ => h49) ?_; simp only [push_cast, seval, gv, Int.toNat_natCast]; (try simp (disch := omega) only [wrapI])) | exact ob1)))))); refine hK _ ?_; clear hK; clear K
            refine awp_seq ?_
            refine awpF_drawT (DT.op 0 (DT.op 1 (DT.op 2 (DT.op 3 (DT.op 4 (DT.op 5 (DT.or (DT.op 6 (DT.op 7 (DT.op 8 (DT.or (DT.op 9 (DT.op 10 (DT.op 11 (DT.op 12 DT.nil)))) (DT.op 10 (DT.or (DT.op 9 (DT.op 11 (DT.op 12 DT.nil))) (DT.op 11 (DT.op 9 (DT.op 12 DT.nil))))))))) (DT.op 10 (DT.op 6 (DT.op 7 (DT.op 8 (DT.or (DT.op 9 (DT.op 11 (DT.op 12 DT.nil))) (DT.op 11 (DT.op 9 (DT.op 12 DT.nil))))))))))))))) (by kernel_rfl) (by kernel_rfl) (by kernel_rfl) ?_; intro K hK; apply dt_close; (rotate_left; (intro fin; (focus (simp only [push_cast, seval, gv, Int.toNat_natCast]; (try simp (disch := omega) only [wrapI]); (repeat' (first | exact fin | (with_reducible refine And.intro ?_ ?_) | (refine CallK.pd (q49) ?_; simp only [push_cast, seval, gv, Int.toNat_natCast]; (try simp (disch := omega) only [wrapI])) | (refine CallK.pg (fun _ => q49) ?_; simp only [push_cast, seval, gv, Int.toNat_natCast]; (try simp (disch := omega) only [wrapI])) | exact ob1)))))); refine hK _ ?_; clear hK; clear K
            refine awp_seq ?_
            refine awp_seq ?_
            refine awpF_region ?_; intro K hK; simp only [push_cast, seval, bne_self_eq_false, Bool.not_false]
            refine CallK.pg (fun _ => h13) ?_
            simp only [push_cast, seval, bne_self_eq_false, Bool.not_false, Bool.not_true]
            (repeat ((with_reducible refine And.intro ?_ ?_); (focus (exact ob1))))
            refine CallK.pg (fun _ => h13s) ?_
            simp only [push_cast, seval, bne_self_eq_false, Bool.not_false, Bool.not_true]
            (repeat ((with_reducible refine And.intro ?_ ?_); (focus (exact ob1))))
            refine hK _ ?_; clear hK; clear K
            apply awp_cond; (focus (simp only [push_cast, seval]; rfl))
            · intro h9
              exact absurd h9 (by decide)
            intro h9
            clear h9
            refine awp_skip ?_
            refine awp_seq ?_
            refine awpF_region ?_; intro K hK; simp only [push_cast, seval]; (try simp (disch := omega) only [wrapI]); (repeat ((with_reducible refine And.intro ?_ ?_); (focus (exact ob1)))); refine hK _ ?_; clear hK; clear K
            apply awp_cond; (focus (simp only [push_cast, seval]; rfl))
            · intro h9; (try simp only [decide_eq_true_eq, decide_eq_false_iff_not, Bool.not_eq_true', Bool.not_eq_false', Bool.and_eq_true, Bool.or_eq_true, Bool.not_eq_true] at h9)
              exact absurd h9 (by simpa using hr)
            · intro h9
              clear h9
              refine awp_skip ?_
              refine inblock_norm (mid_end [0, 1] _ ⟨s, ⟨hsl, hs1, hs2⟩, rfl⟩ ?_)
              exact ⟨by simp, by simp, by simp [push_cast, seval], by simp [push_cast, seval], by simp [push_cast, seval], by simp [push_cast, seval]⟩
      · rintro _ ⟨s2, hs3, rfl⟩
        have wi : IntKind.i64.wrap ((i : Int) + 1) = (i : Int) + 1 := wrapI _ (by omega)
        refine awpF_region ?_; intro K hK; simp only [push_cast, seval, wi]; (try simp (disch := omega) only [wrapI]); (repeat ((with_reducible refine And.intro ?_ ?_); (focus (exact ob1)))); refine hK _ ?_; clear hK; clear K
        refine round_endG (s2, i + 1) [0, 1] ⟨by show vs.length - (i + 1) < vs.length - i; omega, ⟨by show i + 1 ≤ vs.length; omega, hs3⟩, ?_⟩
        exact ⟨by simp, by simp, by simp [push_cast, seval], by simp [push_cast, seval], by simp [push_cast, seval], by simp [push_cast, seval]⟩
    · intro h3; (try simp only [decide_eq_true_eq, decide_eq_false_iff_not, Bool.not_eq_true', Bool.not_eq_false', Bool.and_eq_true, Bool.or_eq_true, Bool.not_eq_true] at h3)
      refine awp_exit ?_; (repeat (first | refine then_exit ?_ | refine inblock_other (by decide) ?_)); refine inblock_same ?_
      have h20 := q20 s hn hs1 hs2
      have h21 := q21 s hn
      by_cases hr : runC s = 0
      · have h13 := q13 (backS s) (backS s) hn hn
        rw [samB_self] at h13
        rw [hr, if_pos rfl] at h20 h21
        unfold encS backS at h20 h21 h13
        dsimp only [List.map_cons, List.map_nil] at h20 h21 h13
        refine awp_seq ?_
        refine awpF_region ?_; intro K hK; simp only [push_cast, seval]
        refine CallK.pd (h20) ?_; simp only [push_cast, seval]; (try simp (disch := omega) only [wrapI]); (repeat ((with_reducible refine And.intro ?_ ?_); (focus (exact ob1))))
        refine hK _ ?_; clear hK; clear K
        refine awp_seq ?_
        refine awpF_region ?_; intro K hK; simp only [push_cast, seval]
        refine CallK.pd (h21) ?_; simp only [push_cast, seval]; (try simp (disch := omega) only [wrapI]); (repeat ((with_reducible refine And.intro ?_ ?_); (focus (exact ob1))))
        refine hK _ ?_; clear hK; clear K
        refine awp_seq ?_
        refine awpF_region ?_; intro K hK; simp only [push_cast, seval, beq_self_eq_true]
        refine CallK.pg (fun _ => h13) ?_
        simp only [push_cast, seval, beq_self_eq_true, bif_and]
        (repeat ((with_reducible refine And.intro ?_ ?_); (focus (exact ob1))))
        refine CallK.pg (fun _ => h7) ?_
        simp only [push_cast, seval, beq_self_eq_true, bif_and]
        (repeat ((with_reducible refine And.intro ?_ ?_); (focus (exact ob1))))
        refine hK _ ?_; clear hK; clear K
        refine awp_ret ?_; (repeat (first | refine then_ret ?_ | refine inblock_ret ?_)); refine fin_of (by simp only [push_cast, seval]; first | done | rfl) ob1 ?_
        rfl
      · have h13 := q13 ⟨0, 0, 0, [], 0, 0, 0, 0, 0⟩ ⟨0, 0, 0, [], 0, 0, 0, 0, 0⟩ (by decide) (by decide)
        rw [samB_self] at h13
        rw [if_neg hr] at h20 h21
        generalize runC s = r at h20 h21
        unfold noSta at h20 h21
        unfold encS at h20 h21 h13
        dsimp only [List.map_nil] at h13
        refine awp_seq ?_
        refine awpF_region ?_; intro K hK; simp only [push_cast, seval]
        refine CallK.pd (h20) ?_; simp only [push_cast, seval]; (try simp (disch := omega) only [wrapI]); (repeat ((with_reducible refine And.intro ?_ ?_); (focus (exact ob1))))
        refine hK _ ?_; clear hK; clear K
        refine awp_seq ?_
        refine awpF_region ?_; intro K hK; simp only [push_cast, seval]
        refine CallK.pd (h21) ?_; simp only [push_cast, seval]; (try simp (disch := omega) only [wrapI]); (repeat ((with_reducible refine And.intro ?_ ?_); (focus (exact ob1))))
        refine hK _ ?_; clear hK; clear K
        refine awp_seq ?_
        refine awpF_region ?_; intro K hK; simp only [push_cast, seval, beq_self_eq_true]
        refine CallK.pg (fun _ => h13) ?_
        simp only [push_cast, seval, beq_self_eq_true, bif_and]
        (repeat ((with_reducible refine And.intro ?_ ?_); (focus (exact ob1))))
        refine CallK.pg (fun _ => h7) ?_
        simp only [push_cast, seval, beq_self_eq_true, bif_and]
        (repeat ((with_reducible refine And.intro ?_ ?_); (focus (exact ob1))))
        refine hK _ ?_; clear hK; clear K
        refine awp_ret ?_; (repeat (first | refine then_ret ?_ | refine inblock_ret ?_)); refine fin_of (by simp only [push_cast, seval]; first | done | rfl) ob1 ?_
        rfl
  · unfold encS
    refine pd_of (fn := Tryz.f4) [.tmp 6] (by kernel_rfl) rfl (by kernel_rfl) (Nat.le_of_ble_eq_true rfl) (by kernel_rfl) rfl rfl ?_
    refine awp_seq ?_
    refine awpF_region ?_; intro K hK; simp only [push_cast, seval]; (try simp (disch := omega) only [wrapI]); (repeat ((with_reducible refine And.intro ?_ ?_); (focus (exact ob1)))); refine hK _ ?_; clear hK; clear K
    refine awp_seq ?_
    refine awp_seq ?_
    refine awpF_region ?_; intro K hK; simp only [push_cast, seval, bif_or]
    repeat (refine ⟨fun h => by rw [h]; rfl, ?_⟩)
    refine hK _ ?_; clear hK; clear K
    apply awp_cond; (focus (simp only [push_cast, seval]; rfl))
    · intro h1
      refine awp_seq ?_
      refine awpF_region ?_; intro K hK; simp only [push_cast, seval]
      refine CallK.pd (h7) ?_; simp only [push_cast, seval]; (try simp (disch := omega) only [wrapI]); (repeat ((with_reducible refine And.intro ?_ ?_); (focus (exact ob1))))
      refine hK _ ?_; clear hK; clear K
      refine awp_ret ?_; (repeat (first | refine then_ret ?_ | refine inblock_ret ?_)); refine fin_of (by simp only [push_cast, seval]; first | done | rfl) ob1 ?_
      rfl
    intro h1
    exfalso
    simp at h1
    omega
theorem fit_bools {x : D} (h : FitA (.sl .bool) x) : ∃ l : List Bool, x = .sl (l.map encT) ∧ l.length ≤ maxLen := by
  obtain ⟨rows, h1, h2, h3⟩ := fits_sl h
  simp at h1
  subst h1
  obtain ⟨l, rfl⟩ := rows_map (f := encT) fun row hr => fits_bool (h3 row hr)
  exact ⟨l, rfl, by simpa using h2⟩
end Go.Aw
