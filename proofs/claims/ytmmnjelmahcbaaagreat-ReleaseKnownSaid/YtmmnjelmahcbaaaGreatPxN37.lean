/-
  Contracts: a report. Conditions: stages that are not too many.
-/
import Derived.Test.YtmmnjelmahcbaaaGreatPxN36
import Derived.Test.YtmmnjelmahcbaaaGreatPxAwOn
namespace Go.Aw
set_option linter.unusedSimpArgs false
set_option linter.unusedVariables false
open Go.RowKit Go.Proofs Go.Nt Go.Rl

theorem runC_zero {s : Sta} (h : runC s = 0) : chkS s = 0 ∧ s.ph = 1 := by
  unfold runC at h
  split at h
  · rename_i h1
    split at h
    · rename_i h2; exact ⟨h1, h2⟩
    · cases h
  · contradiction
theorem chkS_iff (s : Sta) : chkS s = 0 ↔ (1 ≤ s.k ∧ s.k ≤ 64) ∧ inB s.ol = true ∧ inB s.nw = true ∧ s.ol ≠ s.nw ∧ stgsC s.ps = 0 ∧ phB s.ph = true ∧ cntB s = true ∧ (s.gt < leO s ∨ (s.gt = leO s ∧ s.ph ≠ 1)) := by
  constructor
  · intro h
    have hp := chkS_parts h
    unfold chkS at h
    split at h
    · rename_i h1
      simp only [Bool.and_eq_true, decide_eq_true_eq] at h1
      split at h
      · cases h
      · rename_i h2
        refine ⟨h1.1, h1.2.1, h1.2.2, h2, hp.2.2, hp.1, hp.2.1, ?_⟩
        rw [if_pos hp.2.2, if_pos hp.1, if_pos hp.2.1] at h
        split at h
        · assumption
        · cases h
    · cases h
  · rintro ⟨h1, h2, h3, h4, h5, h6, h7, h8⟩
    unfold chkS
    rw [h2, h3, decide_eq_true h1, show (true && (true && true)) = true from rfl, if_pos rfl, if_neg h4, if_pos h5, if_pos h6, if_pos h7, if_pos h8]
/-- May not report: no part of it, or past the first stage without the new version. -/
def outB (s : Sta) (c : Int) : Bool := !(decide (0 ≤ c) && decide (c < s.k)) || (decide (s.st > 0) && (hasI s c != s.nw))
def repC (s : Sta) (c : Int) : Int := if runC s = 0 then (if outB s c then 7 else if s.al ≥ 1099511627776 then 8 else 0) else runC s
def cntS (s : Sta) (bad : Bool) : Sta := { s with gt := s.gt + 1, bd := if bad then s.bd + 1 else s.bd, al := s.al + 1 }

theorem repC_on {s : Sta} (c : Int) (h : runC s = 0) : repC s c = if outB s c then 7 else if s.al ≥ 1099511627776 then 8 else 0 := by
  unfold repC
  rw [if_pos h]
theorem p49 (s : Sta) (c : Int) (bad : Bool) (g : Stg) (hg : s.ps[s.st.toNat]?.getD g = g) (hn : s.ps.length ≤ 1000000) (hp1 : -9223372036854775808 ≤ s.ph) (hp2 : s.ph ≤ 9223372036854775807) :
    PD Tryz.prog 18 [.agg (encS s), .int .i64 c, .bool bad] (.tup [.agg (if repC s c = 0 then (encS (judS (cntS s bad) g)).map .d else noSta), .d (.int .i64 (repC s c))]) := by
  have h86 := p86 s hn hp1 hp2
  have h84 := p84 s c
  have h47 := p47 s c hn hp1 hp2
  have h48 := p48 s hn
  unfold encS at h86 h84 h47 h48
  by_cases h1 : runC s = 0
  · have hR := repC_on c h1
    obtain ⟨hc1, hph⟩ := runC_zero h1
    obtain ⟨_, hcn, _⟩ := chkS_parts hc1
    simp only [cntB, decide_eq_true_eq] at hcn
    rw [h1] at h86
    cases hin : (decide (0 ≤ c) && decide (c < s.k)) with
    | false =>
      have ho : outB s c = true := by unfold outB; rw [hin]; rfl
      rw [ho, if_pos rfl] at hR
      rw [hR, if_neg (by decide)]
      rw [hin] at h84
      unfold encS
      refine pd_of (fn := Tryz.f18) [.cell 6 24, .tmp 7] (by kernel_rfl) rfl (by kernel_rfl) (Nat.le_of_ble_eq_true rfl) (by kernel_rfl) rfl rfl ?_
      refine awp_seq ?_
      refine awpF_region ?_; intro K hK; simp only [push_cast, seval]; (try simp (disch := omega) only [wrapI]); (repeat ((with_reducible refine And.intro ?_ ?_); (focus (exact ob1)))); refine hK _ ?_; clear hK; clear K
      refine awp_seq ?_
      refine awp_seq ?_
      refine awpF_region ?_; intro K hK; simp only [push_cast, seval]
      refine CallK.pd (h86) ?_; simp only [push_cast, seval]; (try simp (disch := omega) only [wrapI]); (repeat ((with_reducible refine And.intro ?_ ?_); (focus (exact ob1))))
      refine hK _ ?_; clear hK; clear K
      refine awp_seq ?_
      refine awpF_region ?_; intro K hK; simp only [push_cast, seval]; (try simp (disch := omega) only [wrapI]); (repeat ((with_reducible refine And.intro ?_ ?_); (focus (exact ob1)))); refine hK _ ?_; clear hK; clear K
      apply awp_cond; (focus (simp only [push_cast, seval]; rfl))
      · intro h
        exact absurd h (by decide)
      · intro q1; (try simp only [decide_eq_true_eq, decide_eq_false_iff_not, Bool.not_eq_true', Bool.not_eq_false', Bool.and_eq_true, Bool.or_eq_true, Bool.not_eq_true] at q1)
        refine awp_skip ?_
        refine awp_seq ?_
        refine awp_seq ?_
        refine awpF_draw [0,1,2,3,4,5,6,7,8,9,10,12,13,11,14,15,16] (by kernel_rfl) (by kernel_rfl) rfl ?_; intro K hK; simp only [push_cast, seval, Bool.not_true, Bool.not_false]
        refine CallK.pd (h84) ?_; simp only [push_cast, seval]; (try simp (disch := omega) only [wrapI]); (repeat ((with_reducible refine And.intro ?_ ?_); (focus (exact ob1))))
        refine CallK.pg (fun _ => h47) ?_
        simp only [push_cast, seval, Bool.not_false, Bool.not_true, bif_or, bif_and]
        repeat (refine ⟨fun h => by rw [h]; rfl, ?_⟩)
        refine hK _ ?_; clear hK; clear K
        apply awp_cond; (focus (simp only [push_cast, seval]; rfl))
        · intro q2; (try simp only [decide_eq_true_eq, decide_eq_false_iff_not, Bool.not_eq_true', Bool.not_eq_false', Bool.and_eq_true, Bool.or_eq_true, Bool.not_eq_true] at q2)
          refine awp_seq ?_
          refine awpF_region ?_; intro K hK; simp only [push_cast, seval]; (try simp (disch := omega) only [wrapI]); (repeat ((with_reducible refine And.intro ?_ ?_); (focus (exact ob1)))); refine hK _ ?_; clear hK; clear K
          refine awp_ret ?_; (repeat (first | refine then_ret ?_ | refine inblock_ret ?_)); refine fin_of (by simp only [push_cast, seval]; first | done | rfl) ob1 ?_
          rfl
        · intro q2
          exact absurd q2 (by decide)
    | true =>
      rw [hin] at h84
      unfold outB at hR
      rw [hin] at hR
      simp only [Bool.not_true, Bool.false_or] at hR
      cases hnw : (decide (s.st > 0) && (hasI s c != s.nw)) with
      | true =>
        rw [hnw, if_pos rfl] at hR
        rw [hR, if_neg (by decide)]
        unfold encS
        refine pd_of (fn := Tryz.f18) [.cell 6 24, .tmp 7] (by kernel_rfl) rfl (by kernel_rfl) (Nat.le_of_ble_eq_true rfl) (by kernel_rfl) rfl rfl ?_
        refine awp_seq ?_
        refine awpF_region ?_; intro K hK; simp only [push_cast, seval]; (try simp (disch := omega) only [wrapI]); (repeat ((with_reducible refine And.intro ?_ ?_); (focus (exact ob1)))); refine hK _ ?_; clear hK; clear K
        refine awp_seq ?_
        refine awp_seq ?_
        refine awpF_region ?_; intro K hK; simp only [push_cast, seval]
        refine CallK.pd (h86) ?_; simp only [push_cast, seval]; (try simp (disch := omega) only [wrapI]); (repeat ((with_reducible refine And.intro ?_ ?_); (focus (exact ob1))))
        refine hK _ ?_; clear hK; clear K
        refine awp_seq ?_
        refine awpF_region ?_; intro K hK; simp only [push_cast, seval]; (try simp (disch := omega) only [wrapI]); (repeat ((with_reducible refine And.intro ?_ ?_); (focus (exact ob1)))); refine hK _ ?_; clear hK; clear K
        apply awp_cond; (focus (simp only [push_cast, seval]; rfl))
        · intro h
          exact absurd h (by decide)
        · intro q1; (try simp only [decide_eq_true_eq, decide_eq_false_iff_not, Bool.not_eq_true', Bool.not_eq_false', Bool.and_eq_true, Bool.or_eq_true, Bool.not_eq_true] at q1)
          refine awp_skip ?_
          refine awp_seq ?_
          refine awp_seq ?_
          refine awpF_draw [0,1,2,3,4,5,6,7,8,9,10,12,13,11,14,15,16] (by kernel_rfl) (by kernel_rfl) rfl ?_; intro K hK; simp only [push_cast, seval, Bool.not_true, Bool.not_false]
          refine CallK.pd (h84) ?_; simp only [push_cast, seval]; (try simp (disch := omega) only [wrapI]); (repeat ((with_reducible refine And.intro ?_ ?_); (focus (exact ob1))))
          refine CallK.pg (fun _ => h47) ?_
          simp only [push_cast, seval, Bool.not_false, Bool.not_true, bif_or, bif_and]
          repeat (refine ⟨fun h => by rw [h]; rfl, ?_⟩)
          refine hK _ ?_; clear hK; clear K
          apply awp_cond; (focus (simp only [push_cast, seval]; rfl))
          · intro q2
            refine awp_seq ?_
            refine awpF_region ?_; intro K hK; simp only [push_cast, seval]; (try simp (disch := omega) only [wrapI]); (repeat ((with_reducible refine And.intro ?_ ?_); (focus (exact ob1)))); refine hK _ ?_; clear hK; clear K
            refine awp_ret ?_; (repeat (first | refine then_ret ?_ | refine inblock_ret ?_)); refine fin_of (by simp only [push_cast, seval]; first | done | rfl) ob1 ?_
            rfl
          · intro q2
            rw [hnw] at q2
            cases q2
      | false =>
        rw [hnw, if_neg (by decide)] at hR
        by_cases hal : s.al ≥ 1099511627776
        · rw [if_pos hal] at hR
          rw [hR, if_neg (by decide)]
          unfold encS
          refine pd_of (fn := Tryz.f18) [.cell 6 24, .tmp 7] (by kernel_rfl) rfl (by kernel_rfl) (Nat.le_of_ble_eq_true rfl) (by kernel_rfl) rfl rfl ?_
          refine awp_seq ?_
          refine awpF_region ?_; intro K hK; simp only [push_cast, seval]; (try simp (disch := omega) only [wrapI]); (repeat ((with_reducible refine And.intro ?_ ?_); (focus (exact ob1)))); refine hK _ ?_; clear hK; clear K
          refine awp_seq ?_
          refine awp_seq ?_
          refine awpF_region ?_; intro K hK; simp only [push_cast, seval]
          refine CallK.pd (h86) ?_; simp only [push_cast, seval]; (try simp (disch := omega) only [wrapI]); (repeat ((with_reducible refine And.intro ?_ ?_); (focus (exact ob1))))
          refine hK _ ?_; clear hK; clear K
          refine awp_seq ?_
          refine awpF_region ?_; intro K hK; simp only [push_cast, seval]; (try simp (disch := omega) only [wrapI]); (repeat ((with_reducible refine And.intro ?_ ?_); (focus (exact ob1)))); refine hK _ ?_; clear hK; clear K
          apply awp_cond; (focus (simp only [push_cast, seval]; rfl))
          · intro h
            exact absurd h (by decide)
          · intro q1; (try simp only [decide_eq_true_eq, decide_eq_false_iff_not, Bool.not_eq_true', Bool.not_eq_false', Bool.and_eq_true, Bool.or_eq_true, Bool.not_eq_true] at q1)
            refine awp_skip ?_
            refine awp_seq ?_
            refine awp_seq ?_
            refine awpF_draw [0,1,2,3,4,5,6,7,8,9,10,12,13,11,14,15,16] (by kernel_rfl) (by kernel_rfl) rfl ?_; intro K hK; simp only [push_cast, seval, Bool.not_true, Bool.not_false]
            refine CallK.pd (h84) ?_; simp only [push_cast, seval]; (try simp (disch := omega) only [wrapI]); (repeat ((with_reducible refine And.intro ?_ ?_); (focus (exact ob1))))
            refine CallK.pg (fun _ => h47) ?_
            simp only [push_cast, seval, Bool.not_false, Bool.not_true, bif_or, bif_and]
            repeat (refine ⟨fun h => by rw [h]; rfl, ?_⟩)
            refine hK _ ?_; clear hK; clear K
            apply awp_cond; (focus (simp only [push_cast, seval]; rfl))
            · intro q2
              rw [hnw] at q2
              cases q2
            · intro q2
              refine awp_skip ?_
              refine awp_seq ?_
              refine awp_seq ?_
              refine awpF_region ?_; intro K hK; simp only [push_cast, seval]; (try simp (disch := omega) only [wrapI]); (repeat ((with_reducible refine And.intro ?_ ?_); (focus (exact ob1)))); refine hK _ ?_; clear hK; clear K
              apply awp_cond; (focus (simp only [push_cast, seval]; rfl))
              · intro q3; (try simp only [decide_eq_true_eq, decide_eq_false_iff_not, Bool.not_eq_true', Bool.not_eq_false', Bool.and_eq_true, Bool.or_eq_true, Bool.not_eq_true] at q3)
                refine awp_seq ?_
                refine awpF_region ?_; intro K hK; simp only [push_cast, seval]; (try simp (disch := omega) only [wrapI]); (repeat ((with_reducible refine And.intro ?_ ?_); (focus (exact ob1)))); refine hK _ ?_; clear hK; clear K
                refine awp_ret ?_; (repeat (first | refine then_ret ?_ | refine inblock_ret ?_)); refine fin_of (by simp only [push_cast, seval]; first | done | rfl) ob1 ?_
                rfl
              · intro q3; (try simp only [decide_eq_true_eq, decide_eq_false_iff_not, Bool.not_eq_true', Bool.not_eq_false', Bool.and_eq_true, Bool.or_eq_true, Bool.not_eq_true] at q3)
                exact absurd hal (by omega)
        · rw [if_neg hal] at hR
          rw [hR, if_pos rfl]
          obtain ⟨t, ht⟩ : ∃ t : Nat, s.st = t := ⟨s.st.toNat, by omega⟩
          have htl : t < s.ps.length := by omega
          obtain rfl : s.ps[t] = g := by
            rw [ht, Int.toNat_natCast, List.getElem?_eq_getElem htl] at hg
            exact hg
          have h87 := p87 (cntS s bad) t ht htl hn
          rw [show (cntS s bad).ps[t]'htl = s.ps[t] from rfl] at h87
          have hle : leO s ≤ 60 := by
            unfold leO
            rw [ht, Int.toNat_natCast, List.getElem?_eq_getElem htl]
            have := List.all_eq_true.1 (stgs_all (chkS_parts hc1).2.2).2.2 _ (List.getElem_mem htl)
            unfold stgB at this
            simp only [Bool.and_eq_true, decide_eq_true_eq] at this
            show (s.ps[t]).le ≤ 60
            omega
          have hgt : s.gt ≤ 60 := by
            have h9 := ((chkS_iff s).1 hc1).2.2.2.2.2.2.2
            omega
          have wal : IntKind.i64.wrap (s.al + 1) = s.al + 1 := wrapI _ (by omega)
          have wgt : IntKind.i64.wrap (s.gt + 1) = s.gt + 1 := wrapI _ (by omega)
          have wbd : IntKind.i64.wrap (s.bd + 1) = s.bd + 1 := wrapI _ (by omega)
          generalize s.ps[t] = g at h87 ⊢
          obtain ⟨z, hz⟩ : ∃ z, z = cntS s bad := ⟨_, rfl⟩
          rw [← hz] at h87 ⊢
          generalize judS z g = y at h87 ⊢
          unfold encS at h87
          unfold encS
          refine pd_of (fn := Tryz.f18) [.cell 6 24, .tmp 7] (by kernel_rfl) rfl (by kernel_rfl) (Nat.le_of_ble_eq_true rfl) (by kernel_rfl) rfl rfl ?_
          refine awp_seq ?_
          refine awpF_region ?_; intro K hK; simp only [push_cast, seval]; (try simp (disch := omega) only [wrapI]); (repeat ((with_reducible refine And.intro ?_ ?_); (focus (exact ob1)))); refine hK _ ?_; clear hK; clear K
          refine awp_seq ?_
          refine awp_seq ?_
          refine awpF_region ?_; intro K hK; simp only [push_cast, seval]
          refine CallK.pd (h86) ?_; simp only [push_cast, seval]; (try simp (disch := omega) only [wrapI]); (repeat ((with_reducible refine And.intro ?_ ?_); (focus (exact ob1))))
          refine hK _ ?_; clear hK; clear K
          refine awp_seq ?_
          refine awpF_region ?_; intro K hK; simp only [push_cast, seval]; (try simp (disch := omega) only [wrapI]); (repeat ((with_reducible refine And.intro ?_ ?_); (focus (exact ob1)))); refine hK _ ?_; clear hK; clear K
          apply awp_cond; (focus (simp only [push_cast, seval]; rfl))
          · intro h
            exact absurd h (by decide)
          · intro q1; (try simp only [decide_eq_true_eq, decide_eq_false_iff_not, Bool.not_eq_true', Bool.not_eq_false', Bool.and_eq_true, Bool.or_eq_true, Bool.not_eq_true] at q1)
            refine awp_skip ?_
            refine awp_seq ?_
            refine awp_seq ?_
            refine awpF_draw [0,1,2,3,4,5,6,7,8,9,10,12,13,11,14,15,16] (by kernel_rfl) (by kernel_rfl) rfl ?_; intro K hK; simp only [push_cast, seval, Bool.not_true, Bool.not_false]
            refine CallK.pd (h84) ?_; simp only [push_cast, seval]; (try simp (disch := omega) only [wrapI]); (repeat ((with_reducible refine And.intro ?_ ?_); (focus (exact ob1))))
            refine CallK.pg (fun _ => h47) ?_
            simp only [push_cast, seval, Bool.not_false, Bool.not_true, bif_or, bif_and]
            repeat (refine ⟨fun h => by rw [h]; rfl, ?_⟩)
            refine hK _ ?_; clear hK; clear K
            apply awp_cond; (focus (simp only [push_cast, seval]; rfl))
            · intro q2
              rw [hnw] at q2
              cases q2
            · intro q2
              refine awp_skip ?_
              refine awp_seq ?_
              refine awp_seq ?_
              refine awpF_region ?_; intro K hK; simp only [push_cast, seval]; (try simp (disch := omega) only [wrapI]); (repeat ((with_reducible refine And.intro ?_ ?_); (focus (exact ob1)))); refine hK _ ?_; clear hK; clear K
              apply awp_cond; (focus (simp only [push_cast, seval]; rfl))
              · intro q3; (try simp only [decide_eq_true_eq, decide_eq_false_iff_not, Bool.not_eq_true', Bool.not_eq_false', Bool.and_eq_true, Bool.or_eq_true, Bool.not_eq_true] at q3)
                exact absurd q3 hal
              · intro q3; (try simp only [decide_eq_true_eq, decide_eq_false_iff_not, Bool.not_eq_true', Bool.not_eq_false', Bool.and_eq_true, Bool.or_eq_true, Bool.not_eq_true] at q3)
                refine awp_skip ?_
                refine awp_seq ?_
                refine awpF_region ?_; intro K hK; simp only [push_cast, seval]
                refine CallK.pd (h48) ?_; simp only [push_cast, seval]; (try simp (disch := omega) only [wrapI]); (repeat ((with_reducible refine And.intro ?_ ?_); (focus (exact ob1))))
                refine hK _ ?_; clear hK; clear K
                refine awp_seq ?_
                refine awpF_region ?_; intro K hK; simp only [push_cast, seval, wal]; (try simp (disch := omega) only [wrapI]); (repeat ((with_reducible refine And.intro ?_ ?_); (focus (exact ob1)))); refine hK _ ?_; clear hK; clear K
                refine awp_seq ?_
                refine awpF_region ?_; intro K hK; simp only [push_cast, seval, wgt]; (try simp (disch := omega) only [wrapI]); (repeat ((with_reducible refine And.intro ?_ ?_); (focus (exact ob1)))); refine hK _ ?_; clear hK; clear K
                refine awp_mid (fun u => u = ⟨[(6, .ptr 1 0 0), (7, .d (.int .i64 0)), (9, .ptr 2 0 0)], [.cells [.d (.int .i64 s.k), .d (.int .i64 s.ol), .d (.int .i64 s.nw), .d (.sl (s.ps.map encG)), .d (.int .i64 s.ph), .d (.int .i64 s.st), .d (.int .i64 s.gt), .d (.int .i64 s.bd), .d (.int .i64 s.al)], .cells [.d (.int .i64 0), .d (.int .i64 0), .d (.int .i64 0), .nil, .d (.int .i64 0), .d (.int .i64 0), .d (.int .i64 0), .d (.int .i64 0), .d (.int .i64 0)], .cells [.d (.int .i64 z.k), .d (.int .i64 z.ol), .d (.int .i64 z.nw), .d (.sl (z.ps.map encG)), .d (.int .i64 z.ph), .d (.int .i64 z.st), .d (.int .i64 z.gt), .d (.int .i64 z.bd), .d (.int .i64 z.al)]]⟩) ?_ ?_
                · refine awp_seq ?_
                  refine awpF_region ?_; intro K hK; simp only [push_cast, seval]; (try simp (disch := omega) only [wrapI]); (repeat ((with_reducible refine And.intro ?_ ?_); (focus (exact ob1)))); refine hK _ ?_; clear hK; clear K
                  apply awp_cond; (focus (simp only [push_cast, seval]; rfl))
                  · intro hb
                    have hb : bad = true := hb
                    subst hb
                    unfold cntS at hz
                    subst hz
                    refine awpF_region ?_; intro K hK; simp only [push_cast, seval, wbd]; (try simp (disch := omega) only [wrapI]); (repeat ((with_reducible refine And.intro ?_ ?_); (focus (exact ob1)))); refine hK _ ?_; clear hK; clear K
                    refine mid_end [0, 1, 2] _ rfl ?_
                    exact ⟨by simp, by simp, by simp [push_cast, seval], by simp [push_cast, seval], by simp [push_cast, seval], by simp [push_cast, seval]⟩
                  · intro hb
                    have hb : bad = false := hb
                    subst hb
                    unfold cntS at hz
                    subst hz
                    refine awp_skip ?_
                    refine mid_end [0, 1, 2] _ rfl ?_
                    exact ⟨by simp, by simp, by simp [push_cast, seval], by simp [push_cast, seval], by simp [push_cast, seval], by simp [push_cast, seval]⟩
                · rintro _ rfl
                  refine awp_seq ?_
                  refine awpF_region ?_; intro K hK; simp only [push_cast, seval]
                  refine CallK.pd (h87) ?_; simp only [push_cast, seval]; (try simp (disch := omega) only [wrapI]); (repeat ((with_reducible refine And.intro ?_ ?_); (focus (exact ob1))))
                  refine hK _ ?_; clear hK; clear K
                  refine awp_ret ?_; (repeat (first | refine then_ret ?_ | refine inblock_ret ?_)); refine fin_of (by simp only [push_cast, seval]; first | done | rfl) ob1 ?_
                  rfl
  · have hR : repC s c = runC s := by unfold repC; rw [if_neg h1]
    rw [hR, if_neg h1]
    unfold encS
    generalize runC s = r at h1 h86 ⊢
    refine pd_of (fn := Tryz.f18) [.cell 6 24, .tmp 7] (by kernel_rfl) rfl (by kernel_rfl) (Nat.le_of_ble_eq_true rfl) (by kernel_rfl) rfl rfl ?_
    refine awp_seq ?_
    refine awpF_region ?_; intro K hK; simp only [push_cast, seval]; (try simp (disch := omega) only [wrapI]); (repeat ((with_reducible refine And.intro ?_ ?_); (focus (exact ob1)))); refine hK _ ?_; clear hK; clear K
    refine awp_seq ?_
    refine awp_seq ?_
    refine awpF_region ?_; intro K hK; simp only [push_cast, seval]
    refine CallK.pd (h86) ?_; simp only [push_cast, seval]; (try simp (disch := omega) only [wrapI]); (repeat ((with_reducible refine And.intro ?_ ?_); (focus (exact ob1))))
    refine hK _ ?_; clear hK; clear K
    refine awp_seq ?_
    refine awpF_region ?_; intro K hK; simp only [push_cast, seval]; (try simp (disch := omega) only [wrapI]); (repeat ((with_reducible refine And.intro ?_ ?_); (focus (exact ob1)))); refine hK _ ?_; clear hK; clear K
    apply awp_cond; (focus (simp only [push_cast, seval]; rfl))
    · intro q1; (try simp only [decide_eq_true_eq, decide_eq_false_iff_not, Bool.not_eq_true', Bool.not_eq_false', Bool.and_eq_true, Bool.or_eq_true, Bool.not_eq_true] at q1)
      refine awp_seq ?_
      refine awpF_region ?_; intro K hK; simp only [push_cast, seval]; (try simp (disch := omega) only [wrapI]); (repeat ((with_reducible refine And.intro ?_ ?_); (focus (exact ob1)))); refine hK _ ?_; clear hK; clear K
      refine awp_ret ?_; (repeat (first | refine then_ret ?_ | refine inblock_ret ?_)); refine fin_of (by simp only [push_cast, seval]; first | done | rfl) ob1 ?_
      rfl
    · intro q1; (try simp only [decide_eq_true_eq, decide_eq_false_iff_not, Bool.not_eq_true', Bool.not_eq_false', Bool.and_eq_true, Bool.or_eq_true, Bool.not_eq_true] at q1)
      exact absurd (by simpa using q1) h1
end Go.Aw
