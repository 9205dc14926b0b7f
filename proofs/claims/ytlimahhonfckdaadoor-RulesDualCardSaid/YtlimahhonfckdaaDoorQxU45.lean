/-
  RulesStays answers true. Conditions: lengths and numbers that a call can have.
-/
import Derived.Test.YtlimahhonfckdaaDoorQuKr
import Derived.Test.YtlimahhonfckdaaDoorQuJr
import Derived.Test.YtlimahhonfckdaaDoorQxV1
namespace Go.Aw
set_option linter.unusedSimpArgs false
set_option linter.unusedVariables false
open Go.RowKit Go.Proofs
set_option maxRecDepth 100000

theorem ev_ok {f : List Nd} {w : Int} {t : Fm} {T : List (List Int)} (hc : chkE f w t = 0) (ht : trE T w = 0) (i : Nat) : evE f w t T i = 0 ∧ evV f w t T i = (vd t T i : Nat) := by
  have e : evE f w t T i = 0 := by rw [evE, if_neg (by simpa using hc), if_neg (by simpa using ht), if_neg (by omega)]
  exact ⟨e, by rw [evV, e, if_pos rfl, Int.toNat_natCast]⟩
theorem hz_ok {f : List Nd} {t : Fm} (h : shE f 12 = 0) : hzE f t = t.hz := by rw [hzE, if_pos h]
theorem node_wide {n : Nd} {w : Int} (hw : w ≤ 12) (h : nodeE n w = 0) : nodeE n 12 = 0 := by
  obtain ⟨op, l, r, k, lo, hi⟩ := n
  unfold nodeE at h ⊢
  split at h
  · cases h
  · rename_i h1
    rw [if_neg h1]
    split at h
    · cases h
    · rename_i h2
      rw [if_neg h2]
      split at h
      · rename_i h3
        have : fairN ⟨op, l, r, k, lo, hi⟩ 12 = true := by
          simp only [fairN] at h3 ⊢
          split
          · rename_i h4
            rw [if_pos h4] at h3
            simp at h3 ⊢
            omega
          · rename_i h4
            rw [if_neg h4] at h3
            exact h3
        rw [if_pos this]
      · cases h
theorem rule_sh12 (l : List Int) {w most : Int} (hw : 1 ≤ w ∧ w ≤ 12) (hm : 0 ≤ most ∧ most ≤ 20) : shE (ruleT l w most).flat 12 = 0 :=
  sh_of ⟨by decide, by decide⟩ (rule_W l hw hm).wf (fun n hn => node_wide hw.2 ((rule_W l hw hm).nodes n hn)) (by have := rule_len l hw hm; omega)
theorem rule_ok (l : List Int) {w most : Int} (hw : 1 ≤ w ∧ w ≤ 12) (hm : 0 ≤ most ∧ most ≤ 20) : ∀ n, n ∈ (ruleT l w most).flat → okN n := fun n hn => okN_of ((rule_W l hw hm).nodes n hn)
set_option maxHeartbeats 1000000 in
theorem p5 (nums rows : List Int) (hn : numsOk nums) (hrw : numsOk rows) : PD Tryd.prog 5 [.sl (nums.map encI), .sl (rows.map encI)] (.d (.bool true)) := by
  have h13 := p13
  have hw : (1 : Int) ≤ 3 ∧ (3 : Int) ≤ 12 := ⟨by decide, by decide⟩
  have hm : (0 : Int) ≤ 4 ∧ (4 : Int) ≤ 20 := ⟨by decide, by decide⟩
  have h26 := p26 nums 3 4 hn.1 hn.2 hw hm
  rw [show (partT nums 3 4 3 0).1 = ruleT nums 3 4 from rfl] at h26
  have h27 := p27 rows 3 40 hrw.1 hrw.2 (by decide) (by decide)
  have hTl := trace_len rows 3 40
  have hTr := fun n => trace_ok (l := rows) (w := 3) (most := 40) ⟨by decide, by decide⟩ (by decide) n
  generalize traceT rows 3 40 = T at *
  have hfl := rule_len nums hw hm
  have hW := rule_W nums hw hm
  have hbd := hz_bd _ hW.wf (rule_ok nums hw hm)
  have hz := hW.hz
  have h18 := p18 (ruleT nums 3 4).flat (ruleT nums 3 4) (by omega) (fun _ => ⟨hW.wf, rfl⟩)
  rw [hz_ok (rule_sh12 nums hw hm)] at h18
  have hchk := rule_chk nums hw hm
  have hdec := fun (n i : Nat) => vd_dec (ruleT nums 3 4) (T.take n) i hW.wf (rule_ok nums hw hm)
  have hmono := fun (n i : Nat) => vd_take (t := ruleT nums 3 4) (T := T) (i := i) (Nat.le_succ n)
  have hv2 := fun (n i : Nat) => vd_le (ruleT nums 3 4) (T.take n) i
  have h24 : ∀ n i : Nat, i ≤ 40 → n ≤ T.length → PD Tryd.prog 24 [.sl ((ruleT nums 3 4).flat.map encNd), .int .i64 3, .sl ((T.take n).map encR), .int .i64 i] (.tup [.d (.int .i64 (vd (ruleT nums 3 4) (T.take n) i : Nat)), .d (.int .i64 0)]) := fun n i hi _ => by
    have h := p24 (ruleT nums 3 4).flat 3 (ruleT nums 3 4) (T.take n) i (by omega) (fun _ => ⟨hW.wf, rfl⟩) (by omega)
    obtain ⟨e1, e2⟩ := ev_ok hchk (hTr n) i
    rwa [e1, e2] at h
  obtain ⟨H, hH⟩ : ∃ H : Nat, (ruleT nums 3 4).hz = H := ⟨(ruleT nums 3 4).hz.toNat, by omega⟩
  rw [hH] at h18 hz
  simp only [hH] at hdec
  generalize hg : (fun n i => vd (ruleT nums 3 4) (T.take n) i) = g at *
  have k1 : ∀ n i, vd (ruleT nums 3 4) (T.take n) i = g n i := fun n i => by rw [← hg]
  simp only [k1] at hdec hmono hv2 h24
  clear k1 hg hchk hTr hbd hW
  generalize (ruleT nums 3 4).flat.map encNd = F at *
  have hqT : ∀ row, row ∈ T.map encR → row.length = 1 := fun row hr => by obtain ⟨_, _, rfl⟩ := List.mem_map.1 hr; rfl
  push_cast at h27 hz
  refine pd_of (fn := Tryd.f5) [.tmp 4] (by kernel_rfl) rfl (by kernel_rfl) (Nat.le_of_ble_eq_true rfl) (by kernel_rfl) rfl rfl ?_
  refine awp_seq ?_
  refine awpF_region ?_; intro K hK; simp only [push_cast, seval]; (try simp (disch := omega) only [wrapI]); (repeat ((with_reducible refine And.intro ?_ ?_); (focus (exact ob1)))); refine hK _ ?_; clear hK K
  refine awp_seq ?_
  refine awpF_region ?_; intro K hK; simp only [push_cast, seval]
  refine CallK.pd (h26) ?_; simp only [push_cast, seval]; (try simp (disch := omega) only [wrapI]); (repeat ((with_reducible refine And.intro ?_ ?_); (focus (exact ob1))))
  refine CallK.pd (h27) ?_; simp only [push_cast, seval]; (try simp (disch := omega) only [wrapI]); (repeat ((with_reducible refine And.intro ?_ ?_); (focus (exact ob1))))
  refine hK _ ?_; clear hK K
  refine awp_seq ?_
  refine awpF_region ?_; intro K hK; simp only [push_cast, seval]
  refine CallK.pd (h18) ?_; simp only [push_cast, seval]; (try simp (disch := omega) only [wrapI]); (repeat ((with_reducible refine And.intro ?_ ?_); (focus (exact ob1))))
  refine hK _ ?_; clear hK K
  refine awp_seq ?_
  refine awp_seq ?_
  refine awpF_region ?_; intro K hK; simp only [push_cast, seval]; (try simp (disch := omega) only [wrapI]); (repeat ((with_reducible refine And.intro ?_ ?_); (focus (exact ob1)))); refine hK _ ?_; clear hK K
  refine awp_block ?_
  refine awp_loopP (α := Nat) (st := fun i => ⟨[(5, .d (.sl F)), (6, .d (.sl (T.map encR))), (7, .d (.int .i64 H)), (8, .d (.int .i64 i))], []⟩) (inv := fun i => i ≤ T.length) (μ := fun i => T.length - i) (x0 := 0) (r0 := []) (Nat.zero_le _) ?_ ?_
  · exact ⟨by simp, by simp, by simp [push_cast, seval], by simp [push_cast, seval], by simp [push_cast, seval], by simp [push_cast, seval]⟩
  intro i hi
  refine awp_seq ?_
  refine awp_seq ?_
  refine awpF_region ?_; intro K hK; simp only [push_cast, seval]; (try simp (disch := omega) only [wrapI]); (repeat ((with_reducible refine And.intro ?_ ?_); (focus (exact ob1)))); refine hK _ ?_; clear hK K
  apply awp_cond; (focus (simp only [push_cast, seval]; rfl))
  · intro h1; (try simp only [decide_eq_true_eq, decide_eq_false_iff_not, Bool.not_eq_true', Bool.not_eq_false', Bool.and_eq_true, Bool.or_eq_true, Bool.not_eq_true] at h1)
    refine awp_skip ?_
    refine awp_seq ?_
    refine awp_block ?_
    refine awp_seq ?_
    refine awpF_region ?_; intro K hK; simp only [push_cast, seval]; (try simp (disch := omega) only [wrapI]); (repeat ((with_reducible refine And.intro ?_ ?_); (focus (exact ob1)))); refine hK _ ?_; clear hK K
    refine awp_seq ?_
    refine awpF_region ?_; intro K hK; simp only [push_cast, seval]; (try simp (disch := omega) only [wrapI]); (repeat ((with_reducible refine And.intro ?_ ?_); (focus (exact ob1)))); refine hK _ ?_; clear hK K
    refine awp_block ?_
    refine awp_loopP (α := Nat) (st := fun n => ⟨[(5, .d (.sl F)), (6, .d (.sl (T.map encR))), (7, .d (.int .i64 H)), (8, .d (.int .i64 i)), (9, .d (.int .i64 (if n = i then 2 else (g (n - 1) i : Nat)))), (10, .d (.int .i64 n))], []⟩) (inv := fun n => i ≤ n ∧ n ≤ T.length + 1) (μ := fun n => T.length + 1 - n) (x0 := i) (r0 := []) ⟨Nat.le_refl _, by omega⟩ ?_ ?_
    · rw [if_pos rfl]
      exact ⟨by simp, by simp, by simp [push_cast, seval], by simp [push_cast, seval], by simp [push_cast, seval], by simp [push_cast, seval]⟩
    rintro n ⟨hn1, hn2⟩
    refine awp_seq ?_
    refine awp_seq ?_
    refine awpF_region ?_; intro K hK; simp only [push_cast, seval]; (try simp (disch := omega) only [wrapI]); (repeat ((with_reducible refine And.intro ?_ ?_); (focus (exact ob1)))); refine hK _ ?_; clear hK K
    apply awp_cond; (focus (simp only [push_cast, seval]; rfl))
    · intro h2
      have h2' : n ≤ T.length := by simp at h2; omega
      clear h2
      have hc := h24 n i (by omega) h2'
      simp only [List.map_take] at hc
      have hmn := hmono (n - 1) i
      have hvn := hv2 n i
      have hvm := hv2 (n - 1) i
      have hdn := hdec n i
      have hwas : (if n = i then (2 : Int) else (g (n - 1) i : Nat)) ≠ 2 → ((g n i : Nat) : Int) = (if n = i then (2 : Int) else (g (n - 1) i : Nat)) := fun h => by
        by_cases e : n = i
        · rw [if_pos e] at h
          exact absurd rfl h
        · rw [if_neg e] at h ⊢
          have := hmn (by omega)
          rw [show (n - 1).succ = n by omega] at this
          omega
      have hlen : (T.take n).length = n := by rw [List.length_take]; omega
      rw [hlen] at hdn
      have hnext : ((g n i : Nat) : Int) = if n + 1 = i then (2 : Int) else (g (n + 1 - 1) i : Nat) := by rw [if_neg (by omega)]; rfl
      generalize (if n = i then (2 : Int) else (g (n - 1) i : Nat)) = wv at *
      have e1 : (bif wv != 2 then ((g n i : Nat) : Int) != wv else false) = false := by
        by_cases e : wv = 2
        · simp [e]
        · have := hwas e
          simp [this]
      generalize g n i = v at *
      refine awp_skip ?_
      refine awp_seq ?_
      refine awp_block ?_
      refine awp_seq ?_
      refine awpF_region ?_; intro K hK; simp only [push_cast, seval, List.map_take, Int.toNat_natCast, Nat.sub_zero, List.drop_zero]
      (repeat ((with_reducible refine And.intro ?_ ?_); (focus (exact ob1))))
      refine CallK.pd (hc) ?_; simp only [push_cast, seval]; (try simp (disch := omega) only [wrapI]); (repeat ((with_reducible refine And.intro ?_ ?_); (focus (exact ob1))))
      refine hK _ ?_; clear hK K
      refine awp_seq ?_
      refine awp_seq ?_
      have hwr : IntKind.i64.wrap ((i : Int) + (H : Int)) = (i : Int) + (H : Int) := wrapI _ (by omega)
      refine awpF_region ?_; intro K hK; simp only [push_cast, seval, bne_self_eq_false, e1, hwr]
      (repeat ((with_reducible refine And.intro ?_ ?_); (focus (exact ob1))))
      refine hK _ ?_; clear hK K
      apply awp_cond; (focus (simp only [push_cast, seval]; rfl))
      · intro h3
        exfalso
        have h4 : v = 2 ∧ i + H < n := by
          simp at h3
          omega
        exact hdn (by omega) h4.1
      · intro _
        refine awp_skip ?_
        refine awpF_region ?_; intro K hK; simp only [push_cast, seval]; (try simp (disch := omega) only [wrapI]); (repeat ((with_reducible refine And.intro ?_ ?_); (focus (exact ob1)))); refine hK _ ?_; clear hK K
        refine inblock_norm ?_
        refine awpF_region ?_; intro K hK; simp only [push_cast, seval]; (try simp (disch := omega) only [wrapI]); (repeat ((with_reducible refine And.intro ?_ ?_); (focus (exact ob1)))); refine hK _ ?_; clear hK K
        refine round_endG (n + 1) ([]) ⟨by omega, ⟨by omega, by omega⟩, ?_⟩
        rw [← hnext]
        push_cast
        exact ⟨by simp, by simp, by simp [push_cast, seval], by simp [push_cast, seval], by simp [push_cast, seval], by simp [push_cast, seval]⟩
    · intro h2
      refine awp_exit ?_; (repeat (first | refine then_exit ?_ | refine inblock_other (by decide) ?_)); refine inblock_same ?_
      refine inblock_norm ?_
      refine awpF_region ?_; intro K hK; simp only [push_cast, seval]; (try simp (disch := omega) only [wrapI]); (repeat ((with_reducible refine And.intro ?_ ?_); (focus (exact ob1)))); refine hK _ ?_; clear hK K
      refine round_endG (i + 1) ([]) ⟨by omega, by omega, ?_⟩
      push_cast
      exact ⟨by simp, by simp, by simp [push_cast, seval], by simp [push_cast, seval], by simp [push_cast, seval], by simp [push_cast, seval]⟩
  · intro h1; (try simp only [decide_eq_true_eq, decide_eq_false_iff_not, Bool.not_eq_true', Bool.not_eq_false', Bool.and_eq_true, Bool.or_eq_true, Bool.not_eq_true] at h1)
    refine awp_exit ?_; (repeat (first | refine then_exit ?_ | refine inblock_other (by decide) ?_)); refine inblock_same ?_
    refine awp_seq ?_
    refine awpF_region ?_; intro K hK; simp only [push_cast, seval]
    refine CallK.pd (h13) ?_; simp only [push_cast, seval]; (try simp (disch := omega) only [wrapI]); (repeat ((with_reducible refine And.intro ?_ ?_); (focus (exact ob1))))
    refine hK _ ?_; clear hK K
    refine awp_ret ?_; (repeat (first | refine then_ret ?_ | refine inblock_ret ?_ | refine nogoto_ret ?_)); refine fin_of (by simp only [push_cast, seval]; first | done | rfl) ob1 ?_
    rfl
end Go.Aw
