/-
  Contracts of the reference: a report, a halt. Conditions: stages that are not too many.
-/
import Derived.Test.YtmmnjelmahcbaaaGreatPxZ3
import Derived.Test.YtmmnjelmahcbaaaGreatPkH
import Derived.Test.YtmmnjelmahcbaaaGreatPxN37
namespace Go.Aw
set_option linter.unusedSimpArgs false
set_option linter.unusedVariables false
open Go.RowKit Go.Proofs Go.Nt Go.Rl

set_option maxRecDepth 10000 in
set_option maxHeartbeats 1000000 in
theorem q19 (s : Sta) (c : Int) (bad : Bool) (g : Stg) (hg : s.ps[s.st.toNat]?.getD g = g) (hn : s.ps.length ≤ 1000000) :
    PD Tryz.prog 19 [.agg (encS s), .int .i64 c, .bool bad] (.tup [.agg (if repC s c = 0 then (encS (judS (cntS s bad) g)).map .d else noSta), .d (.int .i64 (repC s c))]) := by
  have h9 := q9 s hn
  have h16 := q16 s hn
  have hq := encG_len s.ps
  unfold encS at h9 h16
  by_cases h0 : chkS s = 0
  · rw [h0] at h9
    by_cases hph : s.ph = 1
    · have h1 : runC s = 0 := by unfold runC; rw [if_pos h0, if_pos hph]
      have hR := repC_on c h1
      have hI := (chkS_iff s).1 h0
      obtain ⟨_, _, _, hne, hst, _, hcn, hgt⟩ := hI
      simp only [cntB, decide_eq_true_eq] at hcn
      obtain ⟨t, ht⟩ : ∃ t : Nat, s.st = t := ⟨s.st.toNat, by omega⟩
      have htl : t < s.ps.length := by omega
      have h42 := q42 s c t ht htl hn
      unfold encS at h42
      by_cases hin : 0 ≤ c ∧ c < s.k
      · have hv : (decide (c < 0) || decide (c ≥ s.k)) = false := by simp; omega
        have hO : outB s c = (decide (s.st > 0) && !(newB s c)) := by
          unfold outB hasI
          rw [decide_eq_true hin.1, decide_eq_true hin.2, if_pos ⟨h0, hin⟩]
          cases newB s c
          · simp [hne]
          · simp
        rw [hO] at hR
        clear hO
        generalize newB s c = nb at h42 hR
        cases hnw : (decide (s.st > 0) && !nb) with
        | true =>
          rw [hnw, if_pos rfl] at hR
          rw [hR, if_neg (by decide)]
          unfold encS
          refine pd_of (fn := Tryz.f19) [.cell 6 24, .tmp 7] (by kernel_rfl) rfl (by kernel_rfl) (Nat.le_of_ble_eq_true rfl) (by kernel_rfl) rfl rfl ?_
          refine awp_seq ?_
          refine awpF_region ?_; intro K hK; simp only [push_cast, seval]; (try simp (disch := omega) only [wrapI]); (repeat ((with_reducible refine And.intro ?_ ?_); (focus (exact ob1)))); refine hK _ ?_; clear hK; clear K
          refine awp_seq ?_
          refine awpF_region ?_; intro K hK; simp only [push_cast, seval]
          refine CallK.pd (h9) ?_; simp only [push_cast, seval]; (try simp (disch := omega) only [wrapI]); (repeat ((with_reducible refine And.intro ?_ ?_); (focus (exact ob1))))
          refine hK _ ?_; clear hK; clear K
          refine awp_seq ?_
          refine awp_seq ?_
          refine awpF_region ?_; intro K hK; simp only [push_cast, seval]; (try simp (disch := omega) only [wrapI]); (repeat ((with_reducible refine And.intro ?_ ?_); (focus (exact ob1)))); refine hK _ ?_; clear hK; clear K
          apply awp_cond; (focus (simp only [push_cast, seval]; rfl))
          · intro h
            exact absurd h (by decide)
          intro q1
          clear q1
          refine awp_skip ?_
          refine awp_seq ?_
          refine awp_seq ?_
          refine awpF_region ?_; intro K hK; simp only [push_cast, seval]; (try simp (disch := omega) only [wrapI]); (repeat ((with_reducible refine And.intro ?_ ?_); (focus (exact ob1)))); refine hK _ ?_; clear hK; clear K
          apply awp_cond; (focus (simp only [push_cast, seval]; rfl))
          · intro q1; (try simp only [decide_eq_true_eq, decide_eq_false_iff_not, Bool.not_eq_true', Bool.not_eq_false', Bool.and_eq_true, Bool.or_eq_true, Bool.not_eq_true] at q1)
            exact absurd hph (by simpa using q1)
          intro q1; (try simp only [decide_eq_true_eq, decide_eq_false_iff_not, Bool.not_eq_true', Bool.not_eq_false', Bool.and_eq_true, Bool.or_eq_true, Bool.not_eq_true] at q1)
          clear q1
          refine awp_skip ?_
          refine awp_seq ?_
          refine awp_seq ?_
          refine awpF_region ?_; intro K hK; simp only [push_cast, seval, hv, bif_or, bif_and, Bool.not_false]
          repeat (refine ⟨fun h => by rw [h]; rfl, ?_⟩)
          refine CallK.pg (fun _ => h42) ?_
          simp only [push_cast, seval, hv, bif_or, bif_and, Bool.not_false]
          repeat (refine ⟨fun h => by rw [h]; rfl, ?_⟩)
          refine hK _ ?_; clear hK; clear K
          apply awp_cond; (focus (simp only [push_cast, seval]; rfl))
          · intro q2
            refine awp_seq ?_
            refine awpF_region ?_; intro K hK; simp only [push_cast, seval]; (try simp (disch := omega) only [wrapI]); (repeat ((with_reducible refine And.intro ?_ ?_); (focus (exact ob1)))); refine hK _ ?_; clear hK; clear K
            refine awp_ret ?_; (repeat (first | refine then_ret ?_ | refine inblock_ret ?_)); refine fin_of (by simp only [push_cast, seval]; first | done | rfl) ob1 ?_
            rfl
          · intro q2
            rw [hnw] at q2
            cases q2
        | false =>
          rw [hnw, if_neg (by decide)] at hR
          by_cases hal : s.al ≥ 1099511627776
          · rw [if_pos hal] at hR
            rw [hR, if_neg (by decide)]
            unfold encS
            refine pd_of (fn := Tryz.f19) [.cell 6 24, .tmp 7] (by kernel_rfl) rfl (by kernel_rfl) (Nat.le_of_ble_eq_true rfl) (by kernel_rfl) rfl rfl ?_
            refine awp_seq ?_
            refine awpF_region ?_; intro K hK; simp only [push_cast, seval]; (try simp (disch := omega) only [wrapI]); (repeat ((with_reducible refine And.intro ?_ ?_); (focus (exact ob1)))); refine hK _ ?_; clear hK; clear K
            refine awp_seq ?_
            refine awpF_region ?_; intro K hK; simp only [push_cast, seval]
            refine CallK.pd (h9) ?_; simp only [push_cast, seval]; (try simp (disch := omega) only [wrapI]); (repeat ((with_reducible refine And.intro ?_ ?_); (focus (exact ob1))))
            refine hK _ ?_; clear hK; clear K
            refine awp_seq ?_
            refine awp_seq ?_
            refine awpF_region ?_; intro K hK; simp only [push_cast, seval]; (try simp (disch := omega) only [wrapI]); (repeat ((with_reducible refine And.intro ?_ ?_); (focus (exact ob1)))); refine hK _ ?_; clear hK; clear K
            apply awp_cond; (focus (simp only [push_cast, seval]; rfl))
            · intro h
              exact absurd h (by decide)
            intro q1
            clear q1
            refine awp_skip ?_
            refine awp_seq ?_
            refine awp_seq ?_
            refine awpF_region ?_; intro K hK; simp only [push_cast, seval]; (try simp (disch := omega) only [wrapI]); (repeat ((with_reducible refine And.intro ?_ ?_); (focus (exact ob1)))); refine hK _ ?_; clear hK; clear K
            apply awp_cond; (focus (simp only [push_cast, seval]; rfl))
            · intro q1; (try simp only [decide_eq_true_eq, decide_eq_false_iff_not, Bool.not_eq_true', Bool.not_eq_false', Bool.and_eq_true, Bool.or_eq_true, Bool.not_eq_true] at q1)
              exact absurd hph (by simpa using q1)
            intro q1; (try simp only [decide_eq_true_eq, decide_eq_false_iff_not, Bool.not_eq_true', Bool.not_eq_false', Bool.and_eq_true, Bool.or_eq_true, Bool.not_eq_true] at q1)
            clear q1
            refine awp_skip ?_
            refine awp_seq ?_
            refine awp_seq ?_
            refine awpF_region ?_; intro K hK; simp only [push_cast, seval, hv, bif_or, bif_and, Bool.not_false]
            repeat (refine ⟨fun h => by rw [h]; rfl, ?_⟩)
            refine CallK.pg (fun _ => h42) ?_
            simp only [push_cast, seval, hv, bif_or, bif_and, Bool.not_false]
            repeat (refine ⟨fun h => by rw [h]; rfl, ?_⟩)
            refine hK _ ?_; clear hK; clear K
            apply awp_cond; (focus (simp only [push_cast, seval]; rfl))
            · intro q2
              rw [hnw] at q2
              cases q2
            intro q2
            clear q2
            refine awp_skip ?_
            refine awp_seq ?_
            refine awp_seq ?_
            refine awpF_region ?_; intro K hK; simp only [push_cast, seval]; (try simp (disch := omega) only [wrapI]); (repeat ((with_reducible refine And.intro ?_ ?_); (focus (exact ob1)))); refine hK _ ?_; clear hK; clear K
            apply awp_cond; (focus (simp only [push_cast, seval]; rfl))
            · intro q3; (try simp only [decide_eq_true_eq, decide_eq_false_iff_not, Bool.not_eq_true', Bool.not_eq_false', Bool.and_eq_true, Bool.or_eq_true, Bool.not_eq_true] at q3)
              refine awp_seq ?_
              refine awpF_region ?_; intro K hK; simp only [push_cast, seval]; (try simp (disch := omega) only [wrapI]); (repeat ((with_reducible refine And.intro ?_ ?_); (focus (exact ob1)))); refine hK _ ?_; clear hK; clear K
              refine awp_ret ?_; (repeat (first | refine then_ret ?_ | refine inblock_ret ?_)); refine fin_of (by simp only [push_cast, seval]; first | done | rfl) ob1 ?_
              rfl
            · intro q3; (try simp only [decide_eq_true_eq, decide_eq_false_iff_not, Bool.not_eq_true', Bool.not_eq_false', Bool.and_eq_true, Bool.or_eq_true, Bool.not_eq_true] at q3)
              exfalso
              simp at q3
              omega
          · rw [if_neg hal] at hR
            rw [hR, if_pos rfl]
            have g1 : (s.ps.map encG)[t]? = some (encG s.ps[t]) := by rw [List.getElem?_map, List.getElem?_eq_getElem htl]; rfl
            have hle : leO s = s.ps[t].le := by
              unfold leO
              rw [ht, Int.toNat_natCast, List.getElem?_eq_getElem htl]; rfl
            obtain rfl : s.ps[t] = g := by
              rw [ht, Int.toNat_natCast, List.getElem?_eq_getElem htl] at hg
              exact hg
            have hle2 := List.all_eq_true.1 (stgs_all hst).2.2 _ (List.getElem_mem htl)
            unfold stgB at hle2
            simp only [Bool.and_eq_true, decide_eq_true_eq] at hle2
            have hle3 := hle2.1
            clear hle2
            rw [hle] at hgt
            generalize s.ps[t] = g at g1 hgt hle3 ⊢
            obtain ⟨B, hB⟩ : ∃ B, B = (cntS s bad).bd := ⟨_, rfl⟩
            have h28 := p28 (s.gt + 1) B g.rn g.rd g.bn g.bd
            have h27 := p27 (s.gt + 1) B g.rn g.rd g.an g.ad
            have wal : IntKind.i64.wrap (s.al + 1) = s.al + 1 := wrapI _ (by omega)
            have wgt : IntKind.i64.wrap (s.gt + 1) = s.gt + 1 := wrapI _ (by omega)
            have wbd : IntKind.i64.wrap (s.bd + 1) = s.bd + 1 := wrapI _ (by omega)
            have wst : IntKind.i64.wrap (s.st + 1) = s.st + 1 := wrapI _ (by omega)
            have wln : IntKind.i64.wrap ((s.ps.length : Int) - 1) = (s.ps.length : Int) - 1 := wrapI _ (by omega)
            have hJ : judS (cntS s bad) g = if failsB (s.gt + 1) B g.rn g.rd g.bn g.bd then ⟨s.k, s.ol, s.nw, s.ps, 3, s.st, s.gt + 1, B, s.al + 1⟩
                else if holdsB (s.gt + 1) B g.rn g.rd g.an g.ad then (if s.st + 1 = s.ps.length then ⟨s.k, s.ol, s.nw, s.ps, 2, s.st, s.gt + 1, B, s.al + 1⟩ else ⟨s.k, s.ol, s.nw, s.ps, s.ph, s.st + 1, 0, 0, s.al + 1⟩)
                else if s.gt + 1 ≥ g.le then ⟨s.k, s.ol, s.nw, s.ps, 3, s.st, s.gt + 1, B, s.al + 1⟩ else ⟨s.k, s.ol, s.nw, s.ps, s.ph, s.st, s.gt + 1, B, s.al + 1⟩ := by
              subst hB; rfl
            rw [hJ]
            clear hJ
            generalize failsB (s.gt + 1) B g.rn g.rd g.bn g.bd = f at h28 ⊢
            generalize holdsB (s.gt + 1) B g.rn g.rd g.an g.ad = h at h27 ⊢
            simp only [encG] at g1
            obtain ⟨Y, hY⟩ : ∃ Y : Sta, Y = (if f = true then (⟨s.k, s.ol, s.nw, s.ps, 3, s.st, s.gt + 1, B, s.al + 1⟩ : Sta)
                else if h = true then (if s.st + 1 = s.ps.length then ⟨s.k, s.ol, s.nw, s.ps, 2, s.st, s.gt + 1, B, s.al + 1⟩ else ⟨s.k, s.ol, s.nw, s.ps, s.ph, s.st + 1, 0, 0, s.al + 1⟩)
                else if s.gt + 1 ≥ g.le then ⟨s.k, s.ol, s.nw, s.ps, 3, s.st, s.gt + 1, B, s.al + 1⟩ else ⟨s.k, s.ol, s.nw, s.ps, s.ph, s.st, s.gt + 1, B, s.al + 1⟩) := ⟨_, rfl⟩
            rw [← hY]
            unfold encS
            refine pd_of (fn := Tryz.f19) [.cell 6 24, .tmp 7] (by kernel_rfl) rfl (by kernel_rfl) (Nat.le_of_ble_eq_true rfl) (by kernel_rfl) rfl rfl ?_
            refine awp_seq ?_
            refine awpF_region ?_; intro K hK; simp only [push_cast, seval]; (try simp (disch := omega) only [wrapI]); (repeat ((with_reducible refine And.intro ?_ ?_); (focus (exact ob1)))); refine hK _ ?_; clear hK; clear K
            refine awp_seq ?_
            refine awpF_region ?_; intro K hK; simp only [push_cast, seval]
            refine CallK.pd (h9) ?_; simp only [push_cast, seval]; (try simp (disch := omega) only [wrapI]); (repeat ((with_reducible refine And.intro ?_ ?_); (focus (exact ob1))))
            refine hK _ ?_; clear hK; clear K
            refine awp_seq ?_
            refine awp_seq ?_
            refine awpF_region ?_; intro K hK; simp only [push_cast, seval]; (try simp (disch := omega) only [wrapI]); (repeat ((with_reducible refine And.intro ?_ ?_); (focus (exact ob1)))); refine hK _ ?_; clear hK; clear K
            apply awp_cond; (focus (simp only [push_cast, seval]; rfl))
            · intro h
              exact absurd h (by decide)
            intro q1
            clear q1
            refine awp_skip ?_
            refine awp_seq ?_
            refine awp_seq ?_
            refine awpF_region ?_; intro K hK; simp only [push_cast, seval]; (try simp (disch := omega) only [wrapI]); (repeat ((with_reducible refine And.intro ?_ ?_); (focus (exact ob1)))); refine hK _ ?_; clear hK; clear K
            apply awp_cond; (focus (simp only [push_cast, seval]; rfl))
            · intro q1; (try simp only [decide_eq_true_eq, decide_eq_false_iff_not, Bool.not_eq_true', Bool.not_eq_false', Bool.and_eq_true, Bool.or_eq_true, Bool.not_eq_true] at q1)
              exact absurd hph (by simpa using q1)
            intro q1; (try simp only [decide_eq_true_eq, decide_eq_false_iff_not, Bool.not_eq_true', Bool.not_eq_false', Bool.and_eq_true, Bool.or_eq_true, Bool.not_eq_true] at q1)
            clear q1
            refine awp_skip ?_
            refine awp_seq ?_
            refine awp_seq ?_
            refine awpF_region ?_; intro K hK; simp only [push_cast, seval, hv, bif_or, bif_and, Bool.not_false]
            repeat (refine ⟨fun h => by rw [h]; rfl, ?_⟩)
            refine CallK.pg (fun _ => h42) ?_
            simp only [push_cast, seval, hv, bif_or, bif_and, Bool.not_false]
            repeat (refine ⟨fun h => by rw [h]; rfl, ?_⟩)
            refine hK _ ?_; clear hK; clear K
            apply awp_cond; (focus (simp only [push_cast, seval]; rfl))
            · intro q2
              rw [hnw] at q2
              cases q2
            intro q2
            clear q2
            refine awp_skip ?_
            refine awp_seq ?_
            refine awp_seq ?_
            refine awpF_region ?_; intro K hK; simp only [push_cast, seval]; (try simp (disch := omega) only [wrapI]); (repeat ((with_reducible refine And.intro ?_ ?_); (focus (exact ob1)))); refine hK _ ?_; clear hK; clear K
            apply awp_cond; (focus (simp only [push_cast, seval]; rfl))
            · intro q3; (try simp only [decide_eq_true_eq, decide_eq_false_iff_not, Bool.not_eq_true', Bool.not_eq_false', Bool.and_eq_true, Bool.or_eq_true, Bool.not_eq_true] at q3)
              exfalso
              simp at q3
              omega
            intro q3; (try simp only [decide_eq_true_eq, decide_eq_false_iff_not, Bool.not_eq_true', Bool.not_eq_false', Bool.and_eq_true, Bool.or_eq_true, Bool.not_eq_true] at q3)
            clear q3
            refine awp_skip ?_
            refine awp_seq ?_
            refine awpF_region ?_; intro K hK; simp only [push_cast, seval]
            refine CallK.pd (h16) ?_; simp only [push_cast, seval]; (try simp (disch := omega) only [wrapI]); (repeat ((with_reducible refine And.intro ?_ ?_); (focus (exact ob1))))
            refine hK _ ?_; clear hK; clear K
            refine awp_seq ?_
            refine awpF_region ?_; intro K hK; simp only [push_cast, seval, wgt]; (try simp (disch := omega) only [wrapI]); (repeat ((with_reducible refine And.intro ?_ ?_); (focus (exact ob1)))); refine hK _ ?_; clear hK; clear K
            refine awp_seq ?_
            refine awpF_region ?_; intro K hK; simp only [push_cast, seval, wal]; (try simp (disch := omega) only [wrapI]); (repeat ((with_reducible refine And.intro ?_ ?_); (focus (exact ob1)))); refine hK _ ?_; clear hK; clear K
            refine awp_mid (fun u => u = ⟨[(3, .ptr 0 0 0), (6, .ptr 1 0 0)], [.cells [.d (.int .i64 s.k), .d (.int .i64 s.ol), .d (.int .i64 s.nw), .d (.sl (s.ps.map encG)), .d (.int .i64 s.ph), .d (.int .i64 s.st), .d (.int .i64 (s.gt + 1)), .d (.int .i64 B), .d (.int .i64 (s.al + 1))], .cells [.d (.int .i64 0), .d (.int .i64 0), .d (.int .i64 0), .nil, .d (.int .i64 0), .d (.int .i64 0), .d (.int .i64 0), .d (.int .i64 0), .d (.int .i64 0)]]⟩) ?_ ?_
            · refine awp_seq ?_
              refine awpF_region ?_; intro K hK; simp only [push_cast, seval]; (try simp (disch := omega) only [wrapI]); (repeat ((with_reducible refine And.intro ?_ ?_); (focus (exact ob1)))); refine hK _ ?_; clear hK; clear K
              apply awp_cond; (focus (simp only [push_cast, seval]; rfl))
              · intro hb
                have hb : bad = true := hb
                subst hb
                have hB : B = s.bd + 1 := hB
                subst hB
                refine awpF_region ?_; intro K hK; simp only [push_cast, seval, wbd]; (try simp (disch := omega) only [wrapI]); (repeat ((with_reducible refine And.intro ?_ ?_); (focus (exact ob1)))); refine hK _ ?_; clear hK; clear K
                refine mid_end [0, 1] _ rfl ?_
                exact ⟨by simp, by simp, by simp [push_cast, seval], by simp [push_cast, seval], by simp [push_cast, seval], by simp [push_cast, seval]⟩
              · intro hb
                have hb : bad = false := hb
                subst hb
                have hB : B = s.bd := hB
                subst hB
                refine awp_skip ?_
                refine mid_end [0, 1] _ rfl ?_
                exact ⟨by simp, by simp, by simp [push_cast, seval], by simp [push_cast, seval], by simp [push_cast, seval], by simp [push_cast, seval]⟩
            rintro _ rfl
            refine awp_seq ?_
            rw [ht]
            refine awpF_region ?_; intro K hK; simp only [push_cast, seval, g1, Int.toNat_natCast]
            repeat (with_reducible refine And.intro ?_ ?_; (focus (first | exact hq | omega)))
            refine hK _ ?_; clear hK; clear K
            rw [← ht]
            refine awp_mid (fun u => u = ⟨[(3, .ptr 0 0 0), (6, .ptr 1 0 0)], [.cells [.d (.int .i64 Y.k), .d (.int .i64 Y.ol), .d (.int .i64 Y.nw), .d (.sl (Y.ps.map encG)), .d (.int .i64 Y.ph), .d (.int .i64 Y.st), .d (.int .i64 Y.gt), .d (.int .i64 Y.bd), .d (.int .i64 Y.al)], .cells [.d (.int .i64 0), .d (.int .i64 0), .d (.int .i64 0), .nil, .d (.int .i64 0), .d (.int .i64 0), .d (.int .i64 0), .d (.int .i64 0), .d (.int .i64 0)]]⟩) ?_ ?_
            · refine awp_block ?_
              refine awp_seq ?_
              refine awpF_region ?_; intro K hK; simp only [push_cast, seval]
              refine CallK.pd (h28) ?_; simp only [push_cast, seval]; (try simp (disch := omega) only [wrapI]); (repeat ((with_reducible refine And.intro ?_ ?_); (focus (exact ob1))))
              refine hK _ ?_; clear hK; clear K
              apply awp_cond; (focus (simp only [push_cast, seval]; rfl))
              · intro hf
                have hf : f = true := hf
                rw [if_pos hf] at hY
                subst hY
                refine awpF_region ?_; intro K hK; simp only [push_cast, seval]; (try simp (disch := omega) only [wrapI]); (repeat ((with_reducible refine And.intro ?_ ?_); (focus (exact ob1)))); refine hK _ ?_; clear hK; clear K
                refine inblock_norm (mid_end [0, 1] _ rfl ?_)
                exact ⟨by simp, by simp, by simp [push_cast, seval], by simp [push_cast, seval], by simp [push_cast, seval], by simp [push_cast, seval]⟩
              intro hf
              have hf : f = false := hf
              rw [if_neg (by rw [hf]; decide)] at hY
              cases h
              · rw [if_neg (by decide)] at hY
                refine awp_seq ?_
                refine awpF_region ?_; intro K hK; simp only [push_cast, seval]
                refine CallK.pd (h27) ?_; simp only [push_cast, seval]; (try simp (disch := omega) only [wrapI]); (repeat ((with_reducible refine And.intro ?_ ?_); (focus (exact ob1))))
                refine hK _ ?_; clear hK; clear K
                apply awp_cond; (focus (simp only [push_cast, seval]; rfl))
                · intro hh
                  exact absurd hh (by decide)
                intro hh
                clear hh
                refine awp_seq ?_
                refine awpF_region ?_; intro K hK; simp only [push_cast, seval]
                refine CallK.pd (h27) ?_; simp only [push_cast, seval]; (try simp (disch := omega) only [wrapI]); (repeat ((with_reducible refine And.intro ?_ ?_); (focus (exact ob1))))
                refine hK _ ?_; clear hK; clear K
                apply awp_cond; (focus (simp only [push_cast, seval]; rfl))
                · intro hh
                  exact absurd hh (by decide)
                intro hh
                clear hh
                refine awp_seq ?_
                refine awpF_region ?_; intro K hK; simp only [push_cast, seval]; (try simp (disch := omega) only [wrapI]); (repeat ((with_reducible refine And.intro ?_ ?_); (focus (exact ob1)))); refine hK _ ?_; clear hK; clear K
                apply awp_cond; (focus (simp only [push_cast, seval]; rfl))
                · intro h5; (try simp only [decide_eq_true_eq, decide_eq_false_iff_not, Bool.not_eq_true', Bool.not_eq_false', Bool.and_eq_true, Bool.or_eq_true, Bool.not_eq_true] at h5)
                  rw [if_pos (by simp at h5; omega)] at hY
                  subst hY
                  refine awpF_region ?_; intro K hK; simp only [push_cast, seval]; (try simp (disch := omega) only [wrapI]); (repeat ((with_reducible refine And.intro ?_ ?_); (focus (exact ob1)))); refine hK _ ?_; clear hK; clear K
                  refine inblock_norm (mid_end [0, 1] _ rfl ?_)
                  exact ⟨by simp, by simp, by simp [push_cast, seval], by simp [push_cast, seval], by simp [push_cast, seval], by simp [push_cast, seval]⟩
                · intro h5; (try simp only [decide_eq_true_eq, decide_eq_false_iff_not, Bool.not_eq_true', Bool.not_eq_false', Bool.and_eq_true, Bool.or_eq_true, Bool.not_eq_true] at h5)
                  rw [if_neg (by simp at h5; omega)] at hY
                  subst hY
                  refine awp_skip ?_
                  refine inblock_norm (mid_end [0, 1] _ rfl ?_)
                  exact ⟨by simp, by simp, by simp [push_cast, seval], by simp [push_cast, seval], by simp [push_cast, seval], by simp [push_cast, seval]⟩
              · rw [if_pos rfl] at hY
                refine awp_seq ?_
                refine awpF_region ?_; intro K hK; simp only [push_cast, seval, wln]
                refine CallK.pd (h27) ?_; simp only [push_cast, seval]; (try simp (disch := omega) only [wrapI]); (repeat ((with_reducible refine And.intro ?_ ?_); (focus (exact ob1))))
                refine hK _ ?_; clear hK; clear K
                apply awp_cond; (focus (simp only [push_cast, seval]; rfl))
                · intro h5; (try simp only [decide_eq_true_eq, decide_eq_false_iff_not, Bool.not_eq_true', Bool.not_eq_false', Bool.and_eq_true, Bool.or_eq_true, Bool.not_eq_true] at h5)
                  rw [if_pos (by simp at h5; omega)] at hY
                  subst hY
                  refine awpF_region ?_; intro K hK; simp only [push_cast, seval]; (try simp (disch := omega) only [wrapI]); (repeat ((with_reducible refine And.intro ?_ ?_); (focus (exact ob1)))); refine hK _ ?_; clear hK; clear K
                  refine inblock_norm (mid_end [0, 1] _ rfl ?_)
                  exact ⟨by simp, by simp, by simp [push_cast, seval], by simp [push_cast, seval], by simp [push_cast, seval], by simp [push_cast, seval]⟩
                intro h5; (try simp only [decide_eq_true_eq, decide_eq_false_iff_not, Bool.not_eq_true', Bool.not_eq_false', Bool.and_eq_true, Bool.or_eq_true, Bool.not_eq_true] at h5)
                rw [if_neg (by simp at h5; omega)] at hY
                subst hY
                refine awp_seq ?_
                refine awpF_region ?_; intro K hK; simp only [push_cast, seval]
                refine CallK.pd (h27) ?_; simp only [push_cast, seval]; (try simp (disch := omega) only [wrapI]); (repeat ((with_reducible refine And.intro ?_ ?_); (focus (exact ob1))))
                refine hK _ ?_; clear hK; clear K
                apply awp_cond; (focus (simp only [push_cast, seval]; rfl))
                · intro hh
                  clear hh
                  refine awpF_region ?_; intro K hK; simp only [push_cast, seval, wst]; (try simp (disch := omega) only [wrapI]); (repeat ((with_reducible refine And.intro ?_ ?_); (focus (exact ob1)))); refine hK _ ?_; clear hK; clear K
                  refine inblock_norm (mid_end [0, 1] _ rfl ?_)
                  exact ⟨by simp, by simp, by simp [push_cast, seval], by simp [push_cast, seval], by simp [push_cast, seval], by simp [push_cast, seval]⟩
                · intro hh
                  exact absurd hh (by decide)
            · rintro _ rfl
              refine awp_seq ?_
              refine awpF_region ?_; intro K hK; simp only [push_cast, seval]; (try simp (disch := omega) only [wrapI]); (repeat ((with_reducible refine And.intro ?_ ?_); (focus (exact ob1)))); refine hK _ ?_; clear hK; clear K
              refine awp_ret ?_; (repeat (first | refine then_ret ?_ | refine inblock_ret ?_)); refine fin_of (by simp only [push_cast, seval]; first | done | rfl) ob1 ?_
              rfl
      · have hv : (decide (c < 0) || decide (c ≥ s.k)) = true := by
          simp only [Bool.or_eq_true, decide_eq_true_eq]; omega
        have hO : outB s c = true := by
          unfold outB
          rw [show (decide (0 ≤ c) && decide (c < s.k)) = false by simp; omega]
          rfl
        rw [hO, if_pos rfl] at hR
        rw [hR, if_neg (by decide)]
        unfold encS
        refine pd_of (fn := Tryz.f19) [.cell 6 24, .tmp 7] (by kernel_rfl) rfl (by kernel_rfl) (Nat.le_of_ble_eq_true rfl) (by kernel_rfl) rfl rfl ?_
        refine awp_seq ?_
        refine awpF_region ?_; intro K hK; simp only [push_cast, seval]; (try simp (disch := omega) only [wrapI]); (repeat ((with_reducible refine And.intro ?_ ?_); (focus (exact ob1)))); refine hK _ ?_; clear hK; clear K
        refine awp_seq ?_
        refine awpF_region ?_; intro K hK; simp only [push_cast, seval]
        refine CallK.pd (h9) ?_; simp only [push_cast, seval]; (try simp (disch := omega) only [wrapI]); (repeat ((with_reducible refine And.intro ?_ ?_); (focus (exact ob1))))
        refine hK _ ?_; clear hK; clear K
        refine awp_seq ?_
        refine awp_seq ?_
        refine awpF_region ?_; intro K hK; simp only [push_cast, seval]; (try simp (disch := omega) only [wrapI]); (repeat ((with_reducible refine And.intro ?_ ?_); (focus (exact ob1)))); refine hK _ ?_; clear hK; clear K
        apply awp_cond; (focus (simp only [push_cast, seval]; rfl))
        · intro h
          exact absurd h (by decide)
        intro q1
        clear q1
        refine awp_skip ?_
        refine awp_seq ?_
        refine awp_seq ?_
        refine awpF_region ?_; intro K hK; simp only [push_cast, seval]; (try simp (disch := omega) only [wrapI]); (repeat ((with_reducible refine And.intro ?_ ?_); (focus (exact ob1)))); refine hK _ ?_; clear hK; clear K
        apply awp_cond; (focus (simp only [push_cast, seval]; rfl))
        · intro q1; (try simp only [decide_eq_true_eq, decide_eq_false_iff_not, Bool.not_eq_true', Bool.not_eq_false', Bool.and_eq_true, Bool.or_eq_true, Bool.not_eq_true] at q1)
          exact absurd hph (by simpa using q1)
        intro q1; (try simp only [decide_eq_true_eq, decide_eq_false_iff_not, Bool.not_eq_true', Bool.not_eq_false', Bool.and_eq_true, Bool.or_eq_true, Bool.not_eq_true] at q1)
        clear q1
        refine awp_skip ?_
        refine awp_seq ?_
        refine awp_seq ?_
        refine awpF_region ?_; intro K hK; simp only [push_cast, seval, hv, bif_or, bif_and, Bool.not_true]
        repeat (refine ⟨fun h => by rw [h]; rfl, ?_⟩)
        refine CallK.pg (fun _ => h42) ?_
        simp only [push_cast, seval, hv, bif_or, bif_and, Bool.not_true]
        repeat (refine ⟨fun h => by rw [h]; rfl, ?_⟩)
        refine hK _ ?_; clear hK; clear K
        apply awp_cond; (focus (simp only [push_cast, seval]; rfl))
        · intro q2
          refine awp_seq ?_
          refine awpF_region ?_; intro K hK; simp only [push_cast, seval]; (try simp (disch := omega) only [wrapI]); (repeat ((with_reducible refine And.intro ?_ ?_); (focus (exact ob1)))); refine hK _ ?_; clear hK; clear K
          refine awp_ret ?_; (repeat (first | refine then_ret ?_ | refine inblock_ret ?_)); refine fin_of (by simp only [push_cast, seval]; first | done | rfl) ob1 ?_
          rfl
        · intro q2
          exact absurd q2 (by decide)
    · have hR : repC s c = 10 := by unfold repC runC; rw [if_pos h0, if_neg hph]; rfl
      rw [hR, if_neg (by decide)]
      unfold encS
      refine pd_of (fn := Tryz.f19) [.cell 6 24, .tmp 7] (by kernel_rfl) rfl (by kernel_rfl) (Nat.le_of_ble_eq_true rfl) (by kernel_rfl) rfl rfl ?_
      refine awp_seq ?_
      refine awpF_region ?_; intro K hK; simp only [push_cast, seval]; (try simp (disch := omega) only [wrapI]); (repeat ((with_reducible refine And.intro ?_ ?_); (focus (exact ob1)))); refine hK _ ?_; clear hK; clear K
      refine awp_seq ?_
      refine awpF_region ?_; intro K hK; simp only [push_cast, seval]
      refine CallK.pd (h9) ?_; simp only [push_cast, seval]; (try simp (disch := omega) only [wrapI]); (repeat ((with_reducible refine And.intro ?_ ?_); (focus (exact ob1))))
      refine hK _ ?_; clear hK; clear K
      refine awp_seq ?_
      refine awp_seq ?_
      refine awpF_region ?_; intro K hK; simp only [push_cast, seval]; (try simp (disch := omega) only [wrapI]); (repeat ((with_reducible refine And.intro ?_ ?_); (focus (exact ob1)))); refine hK _ ?_; clear hK; clear K
      apply awp_cond; (focus (simp only [push_cast, seval]; rfl))
      · intro h
        exact absurd h (by decide)
      intro q1
      clear q1
      refine awp_skip ?_
      refine awp_seq ?_
      refine awp_seq ?_
      refine awpF_region ?_; intro K hK; simp only [push_cast, seval]; (try simp (disch := omega) only [wrapI]); (repeat ((with_reducible refine And.intro ?_ ?_); (focus (exact ob1)))); refine hK _ ?_; clear hK; clear K
      apply awp_cond; (focus (simp only [push_cast, seval]; rfl))
      · intro q1; (try simp only [decide_eq_true_eq, decide_eq_false_iff_not, Bool.not_eq_true', Bool.not_eq_false', Bool.and_eq_true, Bool.or_eq_true, Bool.not_eq_true] at q1)
        refine awp_seq ?_
        refine awpF_region ?_; intro K hK; simp only [push_cast, seval]; (try simp (disch := omega) only [wrapI]); (repeat ((with_reducible refine And.intro ?_ ?_); (focus (exact ob1)))); refine hK _ ?_; clear hK; clear K
        refine awp_ret ?_; (repeat (first | refine then_ret ?_ | refine inblock_ret ?_)); refine fin_of (by simp only [push_cast, seval]; first | done | rfl) ob1 ?_
        rfl
      · intro q1; (try simp only [decide_eq_true_eq, decide_eq_false_iff_not, Bool.not_eq_true', Bool.not_eq_false', Bool.and_eq_true, Bool.or_eq_true, Bool.not_eq_true] at q1)
        exact absurd (by simpa using q1) hph
  · have hR : repC s c = chkS s := by unfold repC runC; rw [if_neg h0, if_neg h0]
    rw [hR, if_neg h0]
    generalize chkS s = r at h0 h9 ⊢
    unfold encS
    refine pd_of (fn := Tryz.f19) [.cell 6 24, .tmp 7] (by kernel_rfl) rfl (by kernel_rfl) (Nat.le_of_ble_eq_true rfl) (by kernel_rfl) rfl rfl ?_
    refine awp_seq ?_
    refine awpF_region ?_; intro K hK; simp only [push_cast, seval]; (try simp (disch := omega) only [wrapI]); (repeat ((with_reducible refine And.intro ?_ ?_); (focus (exact ob1)))); refine hK _ ?_; clear hK; clear K
    refine awp_seq ?_
    refine awpF_region ?_; intro K hK; simp only [push_cast, seval]
    refine CallK.pd (h9) ?_; simp only [push_cast, seval]; (try simp (disch := omega) only [wrapI]); (repeat ((with_reducible refine And.intro ?_ ?_); (focus (exact ob1))))
    refine hK _ ?_; clear hK; clear K
    refine awp_seq ?_
    refine awp_seq ?_
    refine awpF_region ?_; intro K hK; simp only [push_cast, seval]; (try simp (disch := omega) only [wrapI]); (repeat ((with_reducible refine And.intro ?_ ?_); (focus (exact ob1)))); refine hK _ ?_; clear hK; clear K
    apply awp_cond; (focus (simp only [push_cast, seval]; rfl))
    · intro q1; (try simp only [decide_eq_true_eq, decide_eq_false_iff_not, Bool.not_eq_true', Bool.not_eq_false', Bool.and_eq_true, Bool.or_eq_true, Bool.not_eq_true] at q1)
      refine awp_seq ?_
      refine awpF_region ?_; intro K hK; simp only [push_cast, seval]; (try simp (disch := omega) only [wrapI]); (repeat ((with_reducible refine And.intro ?_ ?_); (focus (exact ob1)))); refine hK _ ?_; clear hK; clear K
      refine awp_ret ?_; (repeat (first | refine then_ret ?_ | refine inblock_ret ?_)); refine fin_of (by simp only [push_cast, seval]; first | done | rfl) ob1 ?_
      rfl
    · intro q1; (try simp only [decide_eq_true_eq, decide_eq_false_iff_not, Bool.not_eq_true', Bool.not_eq_false', Bool.and_eq_true, Bool.or_eq_true, Bool.not_eq_true] at q1)
      exact absurd (by simpa using q1) h0
end Go.Aw
