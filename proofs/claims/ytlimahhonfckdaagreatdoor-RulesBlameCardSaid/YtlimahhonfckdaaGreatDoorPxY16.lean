/-
  RulesLast answers true. Conditions: lengths and numbers that a call can have.
-/
import Derived.Test.YtlimahhonfckdaaGreatDoorPxY9
import Derived.Test.YtlimahhonfckdaaGreatDoorPxY14
import Derived.Test.YtlimahhonfckdaaGreatDoorPxU45
namespace Go.Aw
set_option linter.unusedSimpArgs false
set_option linter.unusedVariables false
open Go.RowKit Go.Proofs
set_option maxRecDepth 100000

theorem psB_ok {f : List Nd} {p : List Ch} {t : Fm} {T : List (List Int)} (h : reE f p t T = 0) : psB f p t T = posA t p T := by rw [psB, decide_eq_true h, Bool.true_and]
theorem reL_ok {f : List Nd} {p : List Ch} {t : Fm} {T : List (List Int)} (h : reE f p t T = 0) : reL f p t T = !posA t p T := by rw [reL, decide_eq_true h, Bool.true_and]
set_option maxHeartbeats 4000000 in
theorem q6 (nums rows : List Int) (n : Int) (hn : numsOk nums) (hrw : numsOk rows) (hnn : -9223372036854775808 ≤ n ∧ n ≤ 9223372036854775807) :
    PD Tryz.prog 6 [.sl (nums.map encI), .sl (rows.map encI), .int .i64 n] (.d (.bool true)) := by
  have h13 := p13
  have hw : (1 : Int) ≤ 2 ∧ (2 : Int) ≤ 12 := ⟨by decide, by decide⟩
  have hm : (0 : Int) ≤ 2 ∧ (2 : Int) ≤ 20 := ⟨by decide, by decide⟩
  have h26 := p26 nums 2 2 hn.1 hn.2 hw hm
  rw [show (partT nums 2 2 3 0).1 = ruleT nums 2 2 from rfl] at h26
  have hfl := rule_len nums hw hm
  have hW := rule_W nums hw hm
  have hwf := hW.wf
  have hno := rule_ok nums hw hm
  have hchk := rule_chk nums hw hm
  have h18 := p18 (ruleT nums 2 2).flat (ruleT nums 2 2) (by omega) (fun _ => ⟨hwf, rfl⟩)
  rw [hz_ok (rule_sh12 nums hw hm)] at h18
  have h24 := q24 n hnn
  have h25 := q25 (plantV n) rows 6 (plant_ok n) rfl hrw ⟨by decide, by decide⟩
  have hRl := runA_len (plantV n) rows (most := 6) (by decide)
  have rk := runA_ok (plant_ok n) rfl rows 6
  have hPl : (plantV n).length = 2 := rfl
  generalize runA (plantV n) rows 6 = T at *
  generalize ruleT nums 2 2 = t at *
  push_cast at h25
  by_cases h4 : t.hz > 4
  · have d5 : decide (t.hz > 4) = true := decide_eq_true h4
    generalize t.hz = hz at *
    refine pd_of (fn := Tryz.f6) [.tmp 6] (by kernel_rfl) rfl (by kernel_rfl) (Nat.le_of_ble_eq_true rfl) (by kernel_rfl) rfl rfl ?_
    (repeat' (first | refine awp_seq ?_ | refine awp_skip ?_ | refine awp_block ?_ | ((first | (refine awpF_region ?_; intro K hK) | refine CallK.pd (h24) ?_ | refine CallK.pg (fun _ => h24) ?_ | refine CallK.pd (h26) ?_ | refine CallK.pg (fun _ => h26) ?_ | refine CallK.pd (h25) ?_ | refine CallK.pg (fun _ => h25) ?_ | refine CallK.pd (h18) ?_ | refine CallK.pg (fun _ => h18) ?_ | refine CallK.pd (h13) ?_ | refine CallK.pg (fun _ => h13) ?_); simp only [push_cast, seval, d5]; refine wObW ?_) | (refine hK _ ?_; clear hK K) | (refine wCd ?_ ?_) | (with_reducible intro hb; exfalso; revert hb; simp [d5]; done) | (with_reducible intro hb; exfalso; replace hb := wHb hb; omega; done) | (with_reducible intro hb; replace hb := wHb hb) | (refine wEx ?_) | (refine wRp ?_; refine fin_of (by simp only [push_cast, seval, d5]; first | done | rfl) ob1 ?_) | (refine inblock_norm ?_)))
    rfl
  have d5 : decide (t.hz > 4) = false := decide_eq_false h4
  have hsh : shE t.flat ((plantV n).length : Int) = 0 → t.wf ∧ t.flat = t.flat := fun _ => ⟨hwf, rfl⟩
  have hre := rk.re (by omega) hchk (by omega)
  have hrei : ∀ i : Nat, reE t.flat (plantV n) t (T.take (i + 1)) = 0 := fun i => (rk.take (by omega)).re (by rw [List.length_take]; omega) hchk (by omega)
  have h29 := q29 t.flat (plantV n) t T (by omega) (by omega) (by omega) hsh
  have h27 : ∀ i : Nat, PD Tryz.prog 27 [.sl (t.flat.map encNd), .sl ((plantV n).map encCh), .sl ((T.take (i + 1)).map encR)] (.tup [.d (.bool (posA t (plantV n) (T.take (i + 1)))), .d (.int .i64 0)]) := fun i => by
    have h := q27 t.flat (plantV n) t (T.take (i + 1)) (by omega) (by omega) (by rw [List.length_take]; omega) hsh
    rwa [psB_ok (hrei i), hrei i] at h
  have h33 := p24 t.flat 2 t T ((0 : Nat) : Int) (by omega) (fun _ => ⟨hwf, rfl⟩) (by omega)
  obtain ⟨e1, e2⟩ := ev_ok hchk (rk.tr (by omega)) 0
  rw [e1, e2] at h33
  simp only [Int.natCast_zero] at h33
  have hyes : vd t T 0 = 1 → posA t (plantV n) T = true := fun h => pos_yes h
  have hnoo : vd t T 0 = 0 → posA t (plantV n) T = false := fun h => pos_no h
  have hv := vd_le t T 0
  have hch := rk.ch
  have hL := reL_ok hre
  have hA1 : posA t (plantV n) T = true → reAt t.flat (plantV n) t T = 0 := fun h => by rw [reAt, hL, h]; rfl
  have hA2 : posA t (plantV n) T = false → reAt t.flat (plantV n) t T = (lostA t (plantV n) T : Nat) := fun h => by rw [reAt, hL, h]; rfl
  have htk : posA t (plantV n) T = true → ∀ i, i < T.length → posA t (plantV n) (T.take (i + 1)) = true := fun h i hi => posA_take hwf hno hch (i + 1) T.length (by omega) hi (Nat.le_refl _) (by rw [List.take_length]; exact h)
  have hlt : posA t (plantV n) T = false → lostA t (plantV n) T < T.length := fun h => lost_not rk.ne h
  have hpi : ∀ i, i < T.length → posA t (plantV n) (T.take (i + 1)) = decide (i < lostA t (plantV n) T) := fun i hi => by
    by_cases h : i < lostA t (plantV n) T
    · rw [decide_eq_true h, lost_pos h]
    · rw [decide_eq_false h, lost_after hwf hno hch (by omega) hi]
  rw [hre, hL] at h29
  generalize reWho t.flat (plantV n) t T = wl at *
  generalize reAt t.flat (plantV n) t T = at' at *
  generalize lostA t (plantV n) T = m at *
  generalize hpT : posA t (plantV n) T = pT at *
  generalize vd t T 0 = v at *
  generalize t.hz = hz at *
  generalize t.flat.map encNd = H at *
  generalize (plantV n).map encCh = G at *
  have z10 : ((1 : Int) != 0) = true := rfl
  have z20 : ((2 : Int) != 0) = true := rfl
  have z01 : ((0 : Int) != 1) = true := rfl
  have z21 : ((2 : Int) != 1) = true := rfl
  have bl : ∀ b : Bool, (b != b) = false := fun b => by cases b <;> rfl
  cases pT with
  | true =>
    rw [hA1 rfl, Bool.not_true] at h29
    have htk := htk rfl
    have hv0 : v = 1 ∨ v = 2 := by
      rcases show v = 0 ∨ v = 1 ∨ v = 2 by omega with h | h
      · have := hnoo h
        cases this
      · exact h
    refine pd_of (fn := Tryz.f6) [.tmp 6] (by kernel_rfl) rfl (by kernel_rfl) (Nat.le_of_ble_eq_true rfl) (by kernel_rfl) rfl rfl ?_
    (repeat' (first | refine awp_seq ?_ | refine awp_skip ?_ | refine awp_block ?_ | ((first | ((fail_if_success refine awpF_region (id := 8) ?_); refine awpF_region ?_; intro K hK) | refine CallK.pd (h24) ?_ | refine CallK.pg (fun _ => h24) ?_ | refine CallK.pd (h26) ?_ | refine CallK.pg (fun _ => h26) ?_ | refine CallK.pd (h25) ?_ | refine CallK.pg (fun _ => h25) ?_ | refine CallK.pd (h18) ?_ | refine CallK.pg (fun _ => h18) ?_ | refine CallK.pd (h29) ?_ | refine CallK.pg (fun _ => h29) ?_); simp only [push_cast, seval, d5, bne_self_eq_false]; refine wObW ?_) | (refine hK _ ?_; clear hK K) | (refine wCd ?_ ?_) | (with_reducible intro hb; exfalso; revert hb; simp [d5, bne_self_eq_false]; done) | (with_reducible intro hb; exfalso; replace hb := wHb hb; omega; done) | (with_reducible intro hb; replace hb := wHb hb) | (refine wEx ?_) | (refine wRp ?_; refine fin_of (by simp only [push_cast, seval, d5, bne_self_eq_false]; first | done | rfl) ob1 ?_) | (refine inblock_norm ?_)))
    refine wRg ?_
    refine awp_block ?_
    refine awp_loopP (α := Nat) (st := fun i => ⟨[(7, .d (.sl G)), (8, .d (.sl H)), (9, .d (.sl (T.map encR))), (10, .ptr 0 0 0), (11, .d (.bool false)), (13, .d (.int .i64 i))], [.cells [.d (.int .i64 0), .d (.sl (wl.map encI))]]⟩)
      (inv := fun i => i ≤ T.length) (μ := fun i => T.length - i) (x0 := 0) (r0 := [0]) (Nat.zero_le _) ?_ ?_
    · exact wRen
    intro i hi
    refine awp_seq ?_
    refine awp_seq ?_
    refine wRg ?_
    refine wCd ?_ ?_
    · intro h1; replace h1 := wHb h1
      have hil : i < T.length := by omega
      have k27 := h27 i
      rw [htk i hil] at k27
      have tk : ((T.map encR).take (i + 1)) = (T.take (i + 1)).map encR := (List.map_take).symm
      have wn1 : IntKind.i64.wrap ((i : Int) + 1) = (i : Int) + 1 := wrapI _ (by omega)
      have tn1 : ((i : Int) + 1).toNat = i + 1 := by omega
      (repeat' (first | refine awp_seq ?_ | refine awp_skip ?_ | refine awp_block ?_ | ((first | ((fail_if_success refine awpF_region (id := 10) ?_); refine awpF_region ?_; intro K hK) | refine CallK.pd (k27) ?_ | refine CallK.pg (fun _ => k27) ?_); simp only [push_cast, seval, bne_self_eq_false, bl, List.drop_zero, Int.toNat_zero, Nat.sub_zero, wn1, tn1, tk]; refine wObW ?_) | (refine hK _ ?_; clear hK K) | (refine wCd ?_ ?_) | (with_reducible intro hb; exfalso; revert hb; simp [bne_self_eq_false, bl, List.drop_zero, Int.toNat_zero, Nat.sub_zero, wn1, tn1, tk]; done) | (with_reducible intro hb; exfalso; replace hb := wHb hb; omega; done) | (with_reducible intro hb; replace hb := wHb hb) | (refine wEx ?_) | (refine wRp ?_; refine fin_of (by simp only [push_cast, seval, bne_self_eq_false, bl, List.drop_zero, Int.toNat_zero, Nat.sub_zero, wn1, tn1, tk]; first | done | rfl) ob1 ?_) | (refine inblock_norm ?_)))
      refine wRg ?_
      refine round_endG (i + 1) [0] ⟨by omega, by omega, ?_⟩
      push_cast
      exact wRen
    · intro h1; replace h1 := wHb h1
      refine wEx ?_
      rcases hv0 with rfl | rfl
      · simp only [Int.natCast_one] at h33
        (repeat' (first | refine awp_seq ?_ | refine awp_skip ?_ | refine awp_block ?_ | ((first | (refine awpF_region ?_; intro K hK) | refine CallK.pd (h33) ?_ | refine CallK.pg (fun _ => h33) ?_ | refine CallK.pd (h13) ?_ | refine CallK.pg (fun _ => h13) ?_); simp only [push_cast, seval, bne_self_eq_false, beq_self_eq_true, z10]; refine wObW ?_) | (refine hK _ ?_; clear hK K) | (refine wCd ?_ ?_) | (with_reducible intro hb; exfalso; revert hb; simp [bne_self_eq_false, beq_self_eq_true, z10]; done) | (with_reducible intro hb; exfalso; replace hb := wHb hb; omega; done) | (with_reducible intro hb; replace hb := wHb hb) | (refine wEx ?_) | (refine wRp ?_; refine fin_of (by simp only [push_cast, seval, bne_self_eq_false, beq_self_eq_true, z10]; first | done | rfl) ob1 ?_) | (refine inblock_norm ?_)))
        rfl
      · simp only [show ((2 : Nat) : Int) = 2 from rfl] at h33
        (repeat' (first | refine awp_seq ?_ | refine awp_skip ?_ | refine awp_block ?_ | ((first | (refine awpF_region ?_; intro K hK) | refine CallK.pd (h33) ?_ | refine CallK.pg (fun _ => h33) ?_ | refine CallK.pd (h13) ?_ | refine CallK.pg (fun _ => h13) ?_); simp only [push_cast, seval, bne_self_eq_false, beq_self_eq_true, z20, z21]; refine wObW ?_) | (refine hK _ ?_; clear hK K) | (refine wCd ?_ ?_) | (with_reducible intro hb; exfalso; revert hb; simp [bne_self_eq_false, beq_self_eq_true, z20, z21]; done) | (with_reducible intro hb; exfalso; replace hb := wHb hb; omega; done) | (with_reducible intro hb; replace hb := wHb hb) | (refine wEx ?_) | (refine wRp ?_; refine fin_of (by simp only [push_cast, seval, bne_self_eq_false, beq_self_eq_true, z20, z21]; first | done | rfl) ob1 ?_) | (refine inblock_norm ?_)))
        rfl
  | false =>
    rw [hA2 rfl, Bool.not_false] at h29
    have hlt := hlt rfl
    have hv0 : v = 0 ∨ v = 2 := by
      rcases show v = 0 ∨ v = 1 ∨ v = 2 by omega with h | h | h
      · exact .inl h
      · have := hyes h
        cases this
      · exact .inr h
    have d1 : decide ((m : Int) < 0) = false := decide_eq_false (by omega)
    have d2 : decide ((m : Int) ≥ (T.length : Int)) = false := decide_eq_false (by omega)
    refine pd_of (fn := Tryz.f6) [.tmp 6] (by kernel_rfl) rfl (by kernel_rfl) (Nat.le_of_ble_eq_true rfl) (by kernel_rfl) rfl rfl ?_
    (repeat' (first | refine awp_seq ?_ | refine awp_skip ?_ | refine awp_block ?_ | ((first | ((fail_if_success refine awpF_region (id := 8) ?_); refine awpF_region ?_; intro K hK) | refine CallK.pd (h24) ?_ | refine CallK.pg (fun _ => h24) ?_ | refine CallK.pd (h26) ?_ | refine CallK.pg (fun _ => h26) ?_ | refine CallK.pd (h25) ?_ | refine CallK.pg (fun _ => h25) ?_ | refine CallK.pd (h18) ?_ | refine CallK.pg (fun _ => h18) ?_ | refine CallK.pd (h29) ?_ | refine CallK.pg (fun _ => h29) ?_); simp only [push_cast, seval, d5, bne_self_eq_false, d1, d2]; refine wObW ?_) | (refine hK _ ?_; clear hK K) | (refine wCd ?_ ?_) | (with_reducible intro hb; exfalso; revert hb; simp [d5, bne_self_eq_false, d1, d2]; done) | (with_reducible intro hb; exfalso; replace hb := wHb hb; omega; done) | (with_reducible intro hb; replace hb := wHb hb) | (refine wEx ?_) | (refine wRp ?_; refine fin_of (by simp only [push_cast, seval, d5, bne_self_eq_false, d1, d2]; first | done | rfl) ob1 ?_) | (refine inblock_norm ?_)))
    refine wRg ?_
    refine awp_block ?_
    refine awp_loopP (α := Nat) (st := fun i => ⟨[(7, .d (.sl G)), (8, .d (.sl H)), (9, .d (.sl (T.map encR))), (10, .ptr 0 0 0), (11, .d (.bool true)), (13, .d (.int .i64 i))], [.cells [.d (.int .i64 m), .d (.sl (wl.map encI))]]⟩)
      (inv := fun i => i ≤ T.length) (μ := fun i => T.length - i) (x0 := 0) (r0 := [0]) (Nat.zero_le _) ?_ ?_
    · exact wRen
    intro i hi
    refine awp_seq ?_
    refine awp_seq ?_
    refine wRg ?_
    refine wCd ?_ ?_
    · intro h1; replace h1 := wHb h1
      have hil : i < T.length := by omega
      have k27 := h27 i
      have hp := hpi i hil
      have tk : ((T.map encR).take (i + 1)) = (T.take (i + 1)).map encR := (List.map_take).symm
      have wn1 : IntKind.i64.wrap ((i : Int) + 1) = (i : Int) + 1 := wrapI _ (by omega)
      have tn1 : ((i : Int) + 1).toNat = i + 1 := by omega
      by_cases him : i < m
      · have d3 : decide ((i : Int) < (m : Int)) = true := decide_eq_true (by omega)
        rw [hp, decide_eq_true him] at k27
        (repeat' (first | refine awp_seq ?_ | refine awp_skip ?_ | refine awp_block ?_ | ((first | ((fail_if_success refine awpF_region (id := 10) ?_); refine awpF_region ?_; intro K hK) | refine CallK.pd (k27) ?_ | refine CallK.pg (fun _ => k27) ?_); simp only [push_cast, seval, bne_self_eq_false, bl, d3, List.drop_zero, Int.toNat_zero, Nat.sub_zero, wn1, tn1, tk]; refine wObW ?_) | (refine hK _ ?_; clear hK K) | (refine wCd ?_ ?_) | (with_reducible intro hb; exfalso; revert hb; simp [bne_self_eq_false, bl, d3, List.drop_zero, Int.toNat_zero, Nat.sub_zero, wn1, tn1, tk]; done) | (with_reducible intro hb; exfalso; replace hb := wHb hb; omega; done) | (with_reducible intro hb; replace hb := wHb hb) | (refine wEx ?_) | (refine wRp ?_; refine fin_of (by simp only [push_cast, seval, bne_self_eq_false, bl, d3, List.drop_zero, Int.toNat_zero, Nat.sub_zero, wn1, tn1, tk]; first | done | rfl) ob1 ?_) | (refine inblock_norm ?_)))
        refine wRg ?_
        refine round_endG (i + 1) [0] ⟨by omega, by omega, ?_⟩
        push_cast
        exact wRen
      · have d3 : decide ((i : Int) < (m : Int)) = false := decide_eq_false (by omega)
        rw [hp, decide_eq_false him] at k27
        (repeat' (first | refine awp_seq ?_ | refine awp_skip ?_ | refine awp_block ?_ | ((first | ((fail_if_success refine awpF_region (id := 10) ?_); refine awpF_region ?_; intro K hK) | refine CallK.pd (k27) ?_ | refine CallK.pg (fun _ => k27) ?_); simp only [push_cast, seval, bne_self_eq_false, bl, d3, List.drop_zero, Int.toNat_zero, Nat.sub_zero, wn1, tn1, tk]; refine wObW ?_) | (refine hK _ ?_; clear hK K) | (refine wCd ?_ ?_) | (with_reducible intro hb; exfalso; revert hb; simp [bne_self_eq_false, bl, d3, List.drop_zero, Int.toNat_zero, Nat.sub_zero, wn1, tn1, tk]; done) | (with_reducible intro hb; exfalso; replace hb := wHb hb; omega; done) | (with_reducible intro hb; replace hb := wHb hb) | (refine wEx ?_) | (refine wRp ?_; refine fin_of (by simp only [push_cast, seval, bne_self_eq_false, bl, d3, List.drop_zero, Int.toNat_zero, Nat.sub_zero, wn1, tn1, tk]; first | done | rfl) ob1 ?_) | (refine inblock_norm ?_)))
        refine wRg ?_
        refine round_endG (i + 1) [0] ⟨by omega, by omega, ?_⟩
        push_cast
        exact wRen
    · intro h1; replace h1 := wHb h1
      refine wEx ?_
      rcases hv0 with rfl | rfl
      · simp only [Int.natCast_zero] at h33
        (repeat' (first | refine awp_seq ?_ | refine awp_skip ?_ | refine awp_block ?_ | ((first | (refine awpF_region ?_; intro K hK) | refine CallK.pd (h33) ?_ | refine CallK.pg (fun _ => h33) ?_ | refine CallK.pd (h13) ?_ | refine CallK.pg (fun _ => h13) ?_); simp only [push_cast, seval, bne_self_eq_false, beq_self_eq_true, z01]; refine wObW ?_) | (refine hK _ ?_; clear hK K) | (refine wCd ?_ ?_) | (with_reducible intro hb; exfalso; revert hb; simp [bne_self_eq_false, beq_self_eq_true, z01]; done) | (with_reducible intro hb; exfalso; replace hb := wHb hb; omega; done) | (with_reducible intro hb; replace hb := wHb hb) | (refine wEx ?_) | (refine wRp ?_; refine fin_of (by simp only [push_cast, seval, bne_self_eq_false, beq_self_eq_true, z01]; first | done | rfl) ob1 ?_) | (refine inblock_norm ?_)))
        rfl
      · simp only [show ((2 : Nat) : Int) = 2 from rfl] at h33
        (repeat' (first | refine awp_seq ?_ | refine awp_skip ?_ | refine awp_block ?_ | ((first | (refine awpF_region ?_; intro K hK) | refine CallK.pd (h33) ?_ | refine CallK.pg (fun _ => h33) ?_ | refine CallK.pd (h13) ?_ | refine CallK.pg (fun _ => h13) ?_); simp only [push_cast, seval, bne_self_eq_false, beq_self_eq_true, z20, z21]; refine wObW ?_) | (refine hK _ ?_; clear hK K) | (refine wCd ?_ ?_) | (with_reducible intro hb; exfalso; revert hb; simp [bne_self_eq_false, beq_self_eq_true, z20, z21]; done) | (with_reducible intro hb; exfalso; replace hb := wHb hb; omega; done) | (with_reducible intro hb; replace hb := wHb hb) | (refine wEx ?_) | (refine wRp ?_; refine fin_of (by simp only [push_cast, seval, bne_self_eq_false, beq_self_eq_true, z20, z21]; first | done | rfl) ob1 ?_) | (refine inblock_norm ?_)))
        rfl
end Go.Aw
