/-
  Contracts: who holds the new version; a state begun and copied. Conditions: stages that are not too many.
-/
import Derived.Test.YtmmnjelmahcbaaaGreatPxN32
namespace Go.Aw
set_option linter.unusedSimpArgs false
set_option linter.unusedVariables false
open Go.RowKit Go.Proofs Go.Nt Go.Rl

def newB (s : Sta) (c : Int) : Bool := if s.ph = 1 then decide (c ∈ shareD s.nw s.k ((s.ps[s.st.toNat]?.map Stg.sh).getD 0)) else decide (s.ph = 2)
def hasI (s : Sta) (c : Int) : Int := if chkS s = 0 ∧ 0 ≤ c ∧ c < s.k then (if newB s c then s.nw else s.ol) else -1
theorem chkS_parts {s : Sta} (h : chkS s = 0) : phB s.ph = true ∧ cntB s = true ∧ stgsC s.ps = 0 := by
  unfold chkS at h
  split at h
  · split at h
    · cases h
    · split at h
      · split at h
        · split at h
          · exact ⟨by assumption, by assumption, by assumption⟩
          · cases h
        · cases h
      · contradiction
  · cases h

theorem p47 (s : Sta) (c : Int) (hn : s.ps.length ≤ 1000000) (hp1 : -9223372036854775808 ≤ s.ph) (hp2 : s.ph ≤ 9223372036854775807) : PD Tryz.prog 10 [.agg (encS s), .int .i64 c] (.d (.int .i64 (hasI s c))) := by
  have h50 := p50 s hn hp1 hp2
  have h84 := p84 s c
  have h85 := p85
  have h112 := p112 s c
  have h113 := p113 s c
  have h110 := fun t ht hl => p110 s c t ht hl hn
  have hmk := mk3 (.d (.fn (.func 74) [])) (.d (.fn (.func 76) [])) (.d (.fn (.func 77) []))
  have hkw : kwf Tryz.prog 3 (.d (.int .i64 s.ph)) := kwf3 hp1 hp2
  unfold encS at h50 h84 h110 h112 h113 ⊢
  refine pd_of (fn := Tryz.f10) [.tmp 4] (by kernel_rfl) rfl (by kernel_rfl) (Nat.le_of_ble_eq_true rfl) (by kernel_rfl) rfl rfl ?_
  refine awp_seq ?_
  refine awpF_region ?_; intro K hK; simp only [push_cast, seval]; (try simp (disch := omega) only [wrapI]); (repeat ((with_reducible refine And.intro ?_ ?_); (focus (exact ob1)))); refine hK _ ?_; clear hK; clear K
  refine awp_seq ?_
  refine awp_seq ?_
  refine awpF_region ?_; intro K hK; simp only [push_cast, seval]
  refine CallK.pd (h50) ?_; simp only [push_cast, seval]; (try simp (disch := omega) only [wrapI]); (repeat ((with_reducible refine And.intro ?_ ?_); (focus (exact ob1))))
  refine CallK.pg (fun _ => h84) ?_
  simp only [push_cast, seval, bif_or]
  repeat (refine ⟨fun h => by rw [h]; rfl, ?_⟩)
  refine hK _ ?_; clear hK; clear K
  apply awp_cond; (focus (simp only [push_cast, seval]; rfl))
  · intro h1
    have hne : ¬ (chkS s = 0 ∧ 0 ≤ c ∧ c < s.k) := by
      simp only [Bool.or_eq_true, bne_iff_ne, Bool.not_eq_true', Bool.and_eq_false_iff, decide_eq_false_iff_not] at h1
      omega
    refine awp_seq ?_
    refine awpF_region ?_; intro K hK; simp only [push_cast, seval]; (try simp (disch := omega) only [wrapI]); (repeat ((with_reducible refine And.intro ?_ ?_); (focus (exact ob1)))); refine hK _ ?_; clear hK; clear K
    refine awp_ret ?_; (repeat (first | refine then_ret ?_ | refine inblock_ret ?_)); refine fin_of (by simp only [push_cast, seval]; first | done | rfl) ob1 ?_
    unfold hasI
    rw [if_neg hne]
  · intro h1
    have hyes : chkS s = 0 ∧ 0 ≤ c ∧ c < s.k := by
      simp only [Bool.or_eq_false_iff, bne_eq_false_iff_eq, Bool.not_eq_false', Bool.and_eq_true, decide_eq_true_eq] at h1
      omega
    have hI : hasI s c = if newB s c then s.nw else s.ol := by unfold hasI; rw [if_pos hyes]
    rw [hI]
    obtain ⟨hph, hcn, hst⟩ := chkS_parts hyes.1
    simp only [cntB, decide_eq_true_eq] at hcn
    simp only [phB, decide_eq_true_eq] at hph
    refine awp_skip ?_
    refine awp_seq ?_
    refine awp_mid (fun u => u = ⟨[(2, .ptr 0 0 0), (20, .d (.bool (newB s c)))], [.cells [.d (.int .i64 s.k), .d (.int .i64 s.ol), .d (.int .i64 s.nw), .d (.sl (s.ps.map encG)), .d (.int .i64 s.ph), .d (.int .i64 s.st), .d (.int .i64 s.gt), .d (.int .i64 s.bd), .d (.int .i64 s.al)]]⟩) ?_ ?_
    · rcases hph with h2 | h2 | h2
      · have hN : newB s c = decide (c ∈ shareD s.nw s.k ((s.ps[s.st.toNat]?.map Stg.sh).getD 0)) := by unfold newB; rw [if_pos h2]
        have htl : s.st.toNat < s.ps.length := by omega
        have h3 := h110 s.st.toNat (by omega) htl
        have hmf := mfA (.d (.fn (.func 74) [])) (.d (.fn (.func 76) [])) (.d (.fn (.func 77) []))
        rw [hN, List.getElem?_eq_getElem htl]
        rw [h2] at h3 hkw ⊢
        simp only [Option.map_some, Option.getD_some]
        refine awpF_draw [1,2,4,5,0,3,6] (by kernel_rfl) (by kernel_rfl) rfl ?_; intro K hK; simp only [push_cast, seval]
        refine CallK.rel h85 ?_
        intro x' H' hR
        have hx' := hR.1
        have hH' := hR.2
        clear hR
        subst hx'
        subst hH'
        simp only [push_cast, seval, hmf]
        refine ⟨hmk, hkw, ?_⟩
        refine CallK.pd (h3) ?_; simp only [push_cast, seval]; (try simp (disch := omega) only [wrapI]); (repeat ((with_reducible refine And.intro ?_ ?_); (focus (exact ob1))))
        refine hK _ ?_; clear hK; clear K
        refine mid_end [0] _ rfl ?_
        exact ⟨by simp, by simp, by simp [push_cast, seval], by simp [push_cast, seval], by simp [push_cast, seval], by simp [push_cast, seval]⟩
      · have hN : newB s c = true := by unfold newB; rw [h2]; rfl
        have hmf := mfB (.d (.fn (.func 74) [])) (.d (.fn (.func 76) [])) (.d (.fn (.func 77) []))
        rw [hN]
        rw [h2] at h112 hkw ⊢
        refine awpF_draw [1,2,4,5,0,3,6] (by kernel_rfl) (by kernel_rfl) rfl ?_; intro K hK; simp only [push_cast, seval]
        refine CallK.rel h85 ?_
        intro x' H' hR
        have hx' := hR.1
        have hH' := hR.2
        clear hR
        subst hx'
        subst hH'
        simp only [push_cast, seval, hmf]
        refine ⟨hmk, hkw, ?_⟩
        refine CallK.pd (h112) ?_; simp only [push_cast, seval]; (try simp (disch := omega) only [wrapI]); (repeat ((with_reducible refine And.intro ?_ ?_); (focus (exact ob1))))
        refine hK _ ?_; clear hK; clear K
        refine mid_end [0] _ rfl ?_
        exact ⟨by simp, by simp, by simp [push_cast, seval], by simp [push_cast, seval], by simp [push_cast, seval], by simp [push_cast, seval]⟩
      · have hN : newB s c = false := by unfold newB; rw [h2]; rfl
        have hmf := mfC (.d (.fn (.func 74) [])) (.d (.fn (.func 76) [])) (.d (.fn (.func 77) []))
        rw [hN]
        rw [h2] at h113 hkw ⊢
        refine awpF_draw [1,2,4,5,0,3,6] (by kernel_rfl) (by kernel_rfl) rfl ?_; intro K hK; simp only [push_cast, seval]
        refine CallK.rel h85 ?_
        intro x' H' hR
        have hx' := hR.1
        have hH' := hR.2
        clear hR
        subst hx'
        subst hH'
        simp only [push_cast, seval, hmf]
        refine ⟨hmk, hkw, ?_⟩
        refine CallK.pd (h113) ?_; simp only [push_cast, seval]; (try simp (disch := omega) only [wrapI]); (repeat ((with_reducible refine And.intro ?_ ?_); (focus (exact ob1))))
        refine hK _ ?_; clear hK; clear K
        refine mid_end [0] _ rfl ?_
        exact ⟨by simp, by simp, by simp [push_cast, seval], by simp [push_cast, seval], by simp [push_cast, seval], by simp [push_cast, seval]⟩
    · rintro _ rfl
      apply awp_cond; (focus (simp only [push_cast, seval]; rfl))
      · intro h3
        have hN : newB s c = true := h3
        refine awp_seq ?_
        refine awpF_region ?_; intro K hK; simp only [push_cast, seval]; (try simp (disch := omega) only [wrapI]); (repeat ((with_reducible refine And.intro ?_ ?_); (focus (exact ob1)))); refine hK _ ?_; clear hK; clear K
        refine awp_ret ?_; (repeat (first | refine then_ret ?_ | refine inblock_ret ?_)); refine fin_of (by simp only [push_cast, seval]; first | done | rfl) ob1 ?_
        rw [hN]
        rfl
      · intro h3
        have hN : newB s c = false := h3
        refine awp_skip ?_
        refine awp_seq ?_
        refine awpF_region ?_; intro K hK; simp only [push_cast, seval]; (try simp (disch := omega) only [wrapI]); (repeat ((with_reducible refine And.intro ?_ ?_); (focus (exact ob1)))); refine hK _ ?_; clear hK; clear K
        refine awp_ret ?_; (repeat (first | refine then_ret ?_ | refine inblock_ret ?_)); refine fin_of (by simp only [push_cast, seval]; first | done | rfl) ob1 ?_
        rw [hN]
        rfl

theorem p83 (ss : List Stg) (hn : ss.length ≤ 1000000) : PD Tryz.prog 44 [.sl (ss.map encG)] (.d (.sl (ss.map encG))) := by
  show PD Tryz.prog 44 _ (ofD (.sl (ss.map encG)))
  refine pdd_of (fn := Tryz.f44) [.tmp 2] (by kernel_rfl) rfl (by kernel_rfl) (Nat.le_of_ble_eq_true rfl) (by kernel_rfl) rfl ?_
  refine awp_seq ?_
  refine awpF_region ?_; intro K hK; simp only [push_cast, seval]; (try simp (disch := omega) only [wrapI]); (repeat ((with_reducible refine And.intro ?_ ?_); (focus (exact ob1)))); refine hK _ ?_; clear hK; clear K
  refine awp_seq ?_
  refine awp_seq ?_
  refine awpF_region ?_; intro K hK; simp only [push_cast, seval]
  refine ⟨?_, fun h0 => ?_⟩
  · refine hK _ ?_; clear hK; clear K
    apply awp_cond; (focus (simp only [push_cast, seval]; rfl))
    · intro h1; (try simp only [decide_eq_true_eq, decide_eq_false_iff_not, Bool.not_eq_true', Bool.not_eq_false', Bool.and_eq_true, Bool.or_eq_true, Bool.not_eq_true] at h1)
      cases h1
    intro h1; (try simp only [decide_eq_true_eq, decide_eq_false_iff_not, Bool.not_eq_true', Bool.not_eq_false', Bool.and_eq_true, Bool.or_eq_true, Bool.not_eq_true] at h1)
    refine awp_skip ?_
    refine awp_seq ?_
    refine awpF_region ?_; intro K hK; simp only [push_cast, seval]
    refine ⟨fun h => h, by omega, by omega, fun r h => encG_row ss r h, ?_⟩
    refine hK _ ?_; clear hK; clear K
    refine awp_ret ?_; (repeat (first | refine then_ret ?_ | refine inblock_ret ?_)); refine fin_of (by simp only [push_cast, seval]; first | done | rfl) ob1 ?_
    have := Deep.data (H := [Blk.data 8 (ss.map encG)]) 0 0 ss.length 8 (ss.map encG) rfl (by simp)
    rw [List.drop_zero, List.take_of_length_le (by simp)] at this
    exact this
  · refine hK _ ?_; clear hK; clear K
    obtain rfl : ss = [] := List.eq_nil_of_length_eq_zero h0
    apply awp_cond; (focus (simp only [push_cast, seval]; rfl))
    · intro h1; (try simp only [decide_eq_true_eq, decide_eq_false_iff_not, Bool.not_eq_true', Bool.not_eq_false', Bool.and_eq_true, Bool.or_eq_true, Bool.not_eq_true] at h1)
      refine awp_seq ?_
      refine awpF_region ?_; intro K hK; simp only [push_cast, seval]; (try simp (disch := omega) only [wrapI]); (repeat ((with_reducible refine And.intro ?_ ?_); (focus (exact ob1)))); refine hK _ ?_; clear hK; clear K
      refine awp_ret ?_; (repeat (first | refine then_ret ?_ | refine inblock_ret ?_)); refine fin_of (by simp only [push_cast, seval]; first | done | rfl) ob1 ?_
      exact Deep.nil
    intro h1; (try simp only [decide_eq_true_eq, decide_eq_false_iff_not, Bool.not_eq_true', Bool.not_eq_false', Bool.and_eq_true, Bool.or_eq_true, Bool.not_eq_true] at h1)
    cases h1

theorem p48 (s : Sta) (hn : s.ps.length ≤ 1000000) : PD Tryz.prog 17 [.agg (encS s)] (.agg ((encS s).map .d)) := by
  have h83 := p83 s.ps hn
  unfold encS
  refine pd_of (fn := Tryz.f17) [.cell 2 24] (by kernel_rfl) rfl (by kernel_rfl) (Nat.le_of_ble_eq_true rfl) (by kernel_rfl) rfl rfl ?_
  refine awp_seq ?_
  refine awpF_region ?_; intro K hK; simp only [push_cast, seval]; (try simp (disch := omega) only [wrapI]); (repeat ((with_reducible refine And.intro ?_ ?_); (focus (exact ob1)))); refine hK _ ?_; clear hK; clear K
  refine awp_seq ?_
  refine awpF_region ?_; intro K hK; simp only [push_cast, seval]
  refine CallK.pd (h83) ?_; simp only [push_cast, seval]; (try simp (disch := omega) only [wrapI]); (repeat ((with_reducible refine And.intro ?_ ?_); (focus (exact ob1))))
  refine hK _ ?_; clear hK; clear K
  refine awp_seq ?_
  refine awpF_region ?_; intro K hK; simp only [push_cast, seval]; (try simp (disch := omega) only [wrapI]); (repeat ((with_reducible refine And.intro ?_ ?_); (focus (exact ob1)))); refine hK _ ?_; clear hK; clear K
  refine awp_ret ?_; (repeat (first | refine then_ret ?_ | refine inblock_ret ?_)); refine fin_of (by simp only [push_cast, seval]; first | done | rfl) ob1 ?_
  rfl
def sta0 (k ol nw : Int) (ps : List Stg) : Sta := ⟨k, ol, nw, ps, 1, 0, 0, 0, 0⟩
/-- No state. -/
def noSta : List V := [.d (.int .i64 0), .d (.int .i64 0), .d (.int .i64 0), .nil, .d (.int .i64 0), .d (.int .i64 0), .d (.int .i64 0), .d (.int .i64 0), .d (.int .i64 0)]
theorem p45 (k ol nw : Int) (ps : List Stg) (hn : ps.length ≤ 1000000) : PD Tryz.prog 14 [.int .i64 k, .int .i64 ol, .int .i64 nw, .sl (ps.map encG)] (.tup [.agg (if chkS (sta0 k ol nw ps) = 0 then (encS (sta0 k ol nw ps)).map .d else noSta), .d (.int .i64 (chkS (sta0 k ol nw ps)))]) := by
  have h83 := p83 ps hn
  have h50 := p50 (sta0 k ol nw ps) hn (by show (-9223372036854775808 : Int) ≤ 1; decide) (by show (1 : Int) ≤ 9223372036854775807; decide)
  unfold encS at h50
  generalize chkS (sta0 k ol nw ps) = c at h50 ⊢
  unfold sta0 at h50
  dsimp only at h50
  by_cases h2 : c = 0
  · rw [if_pos h2]
    subst h2
    refine pd_of (fn := Tryz.f14) [.cell 8 24, .tmp 9] (by kernel_rfl) rfl (by kernel_rfl) (Nat.le_of_ble_eq_true rfl) (by kernel_rfl) rfl rfl ?_
    refine awp_seq ?_
    refine awpF_region ?_; intro K hK; simp only [push_cast, seval]; (try simp (disch := omega) only [wrapI]); (repeat ((with_reducible refine And.intro ?_ ?_); (focus (exact ob1)))); refine hK _ ?_; clear hK; clear K
    refine awp_seq ?_
    refine awpF_region ?_; intro K hK; simp only [push_cast, seval]
    refine CallK.pd (h83) ?_; simp only [push_cast, seval]; (try simp (disch := omega) only [wrapI]); (repeat ((with_reducible refine And.intro ?_ ?_); (focus (exact ob1))))
    refine hK _ ?_; clear hK; clear K
    refine awp_seq ?_
    refine awp_seq ?_
    refine awpF_region ?_; intro K hK; simp only [push_cast, seval]
    refine CallK.pd (h50) ?_; simp only [push_cast, seval]; (try simp (disch := omega) only [wrapI]); (repeat ((with_reducible refine And.intro ?_ ?_); (focus (exact ob1))))
    refine hK _ ?_; clear hK; clear K
    refine awp_seq ?_
    refine awpF_region ?_; intro K hK; simp only [push_cast, seval]; (try simp (disch := omega) only [wrapI]); (repeat ((with_reducible refine And.intro ?_ ?_); (focus (exact ob1)))); refine hK _ ?_; clear hK; clear K
    apply awp_cond; (focus (simp only [push_cast, seval]; rfl))
    · intro h1; (try simp only [decide_eq_true_eq, decide_eq_false_iff_not, Bool.not_eq_true', Bool.not_eq_false', Bool.and_eq_true, Bool.or_eq_true, Bool.not_eq_true] at h1)
      exact absurd h1 (by decide)
    · intro h1; (try simp only [decide_eq_true_eq, decide_eq_false_iff_not, Bool.not_eq_true', Bool.not_eq_false', Bool.and_eq_true, Bool.or_eq_true, Bool.not_eq_true] at h1)
      refine awp_skip ?_
      refine awp_seq ?_
      refine awpF_region ?_; intro K hK; simp only [push_cast, seval]; (try simp (disch := omega) only [wrapI]); (repeat ((with_reducible refine And.intro ?_ ?_); (focus (exact ob1)))); refine hK _ ?_; clear hK; clear K
      refine awp_ret ?_; (repeat (first | refine then_ret ?_ | refine inblock_ret ?_)); refine fin_of (by simp only [push_cast, seval]; first | done | rfl) ob1 ?_
      rfl
  · rw [if_neg h2]
    refine pd_of (fn := Tryz.f14) [.cell 8 24, .tmp 9] (by kernel_rfl) rfl (by kernel_rfl) (Nat.le_of_ble_eq_true rfl) (by kernel_rfl) rfl rfl ?_
    refine awp_seq ?_
    refine awpF_region ?_; intro K hK; simp only [push_cast, seval]; (try simp (disch := omega) only [wrapI]); (repeat ((with_reducible refine And.intro ?_ ?_); (focus (exact ob1)))); refine hK _ ?_; clear hK; clear K
    refine awp_seq ?_
    refine awpF_region ?_; intro K hK; simp only [push_cast, seval]
    refine CallK.pd (h83) ?_; simp only [push_cast, seval]; (try simp (disch := omega) only [wrapI]); (repeat ((with_reducible refine And.intro ?_ ?_); (focus (exact ob1))))
    refine hK _ ?_; clear hK; clear K
    refine awp_seq ?_
    refine awp_seq ?_
    refine awpF_region ?_; intro K hK; simp only [push_cast, seval]
    refine CallK.pd (h50) ?_; simp only [push_cast, seval]; (try simp (disch := omega) only [wrapI]); (repeat ((with_reducible refine And.intro ?_ ?_); (focus (exact ob1))))
    refine hK _ ?_; clear hK; clear K
    refine awp_seq ?_
    refine awpF_region ?_; intro K hK; simp only [push_cast, seval]; (try simp (disch := omega) only [wrapI]); (repeat ((with_reducible refine And.intro ?_ ?_); (focus (exact ob1)))); refine hK _ ?_; clear hK; clear K
    apply awp_cond; (focus (simp only [push_cast, seval]; rfl))
    · intro h1; (try simp only [decide_eq_true_eq, decide_eq_false_iff_not, Bool.not_eq_true', Bool.not_eq_false', Bool.and_eq_true, Bool.or_eq_true, Bool.not_eq_true] at h1)
      refine awp_seq ?_
      refine awpF_region ?_; intro K hK; simp only [push_cast, seval]; (try simp (disch := omega) only [wrapI]); (repeat ((with_reducible refine And.intro ?_ ?_); (focus (exact ob1)))); refine hK _ ?_; clear hK; clear K
      refine awp_ret ?_; (repeat (first | refine then_ret ?_ | refine inblock_ret ?_)); refine fin_of (by simp only [push_cast, seval]; first | done | rfl) ob1 ?_
      rfl
    · intro h1; (try simp only [decide_eq_true_eq, decide_eq_false_iff_not, Bool.not_eq_true', Bool.not_eq_false', Bool.and_eq_true, Bool.or_eq_true, Bool.not_eq_true] at h1)
      exact absurd (by simpa using h1) h2
end Go.Aw
