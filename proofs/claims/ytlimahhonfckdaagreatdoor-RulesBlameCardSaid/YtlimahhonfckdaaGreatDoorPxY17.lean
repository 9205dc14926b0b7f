/-
  RulesBlame answers true. Conditions: lengths and numbers that a call can have.
-/
import Derived.Test.YtlimahhonfckdaaGreatDoorPxY16
import Derived.Test.YtlimahhonfckdaaGreatDoorPxY10
namespace Go.Aw
set_option linter.unusedSimpArgs false
set_option linter.unusedVariables false
open Go.RowKit Go.Proofs
set_option maxRecDepth 100000

theorem whoL_mem {t : Fm} {p : List Ch} {T : List (List Int)} {n k o : Nat} (hn : n ≠ 0) (ho : o < k) : decide ((o : Int) ∈ whoL t p T n k) = keepA t p (T.take n) (T[n]?.getD []) (o : Int) := by
  rw [whoL, if_neg hn]
  cases h : keepA t p (T.take n) (T[n]?.getD []) (o : Int) with
  | true =>
    refine decide_eq_true (List.mem_map.2 ⟨o, List.mem_filter.2 ⟨List.mem_range.2 ho, ?_⟩, rfl⟩)
    exact h
  | false =>
    refine decide_eq_false fun hm => ?_
    obtain ⟨j, hj, he⟩ := List.mem_map.1 hm
    have hje : j = o := by omega
    subst hje
    rw [(List.mem_filter.1 hj).2] at h
    cases h
theorem two_of {r : List Int} (h : r.length = 2) : ∃ x y, r = [x, y] := by
  match r, h with
  | [x, y], _ => exact ⟨x, y, rfl⟩
theorem last_take {T : List (List Int)} {m : Nat} {row : List Int} (hm : m ≠ 0) (h : T[m - 1]? = some row) : (T.take m).getLastD [] = row := by
  obtain ⟨k, rfl⟩ : ∃ k, m = k + 1 := ⟨m - 1, by omega⟩
  rw [Nat.add_sub_cancel] at h
  rw [List.take_add_one, h, Option.toList_some, List.getLastD_eq_getLast?, List.getLast?_concat]
  rfl
set_option maxHeartbeats 8000000 in
theorem q7 (nums rows : List Int) (n : Int) (hn : numsOk nums) (hrw : numsOk rows) (hnn : -9223372036854775808 ≤ n ∧ n ≤ 9223372036854775807) :
    PD Tryz.prog 7 [.sl (nums.map encI), .sl (rows.map encI), .int .i64 n] (.d (.bool true)) := by
  have h13 := p13
  have hw : (1 : Int) ≤ 2 ∧ (2 : Int) ≤ 12 := ⟨by decide, by decide⟩
  have hm : (0 : Int) ≤ 2 ∧ (2 : Int) ≤ 20 := ⟨by decide, by decide⟩
  have h26 := p26 nums 2 2 hn.1 hn.2 hw hm
  rw [show (partT nums 2 2 3 0).1 = ruleT nums 2 2 from rfl] at h26
  have hfl := rule_len nums hw hm
  have hW := rule_W nums hw hm
  have hwf := hW.wf
  have hno := rule_ok nums hw hm
  have hchk := rule_chk nums hw hm
  have h18 := p18 (ruleT nums 2 2).flat (ruleT nums 2 2) (by omega) (fun _ => ⟨hwf, rfl⟩)
  rw [hz_ok (rule_sh12 nums hw hm)] at h18
  have h24 := q24 n hnn
  have h25 := q25 (plantV n) rows 5 (plant_ok n) rfl hrw ⟨by decide, by decide⟩
  have hRl := runA_len (plantV n) rows (most := 5) (by decide)
  have rk := runA_ok (plant_ok n) rfl rows 5
  have hPl : (plantV n).length = 2 := rfl
  have hPok := plant_ok n
  generalize runA (plantV n) rows 5 = T at *
  generalize ruleT nums 2 2 = t at *
  push_cast at h25
  by_cases h4 : t.hz > 3
  · have d5 : decide (t.hz > 3) = true := decide_eq_true h4
    generalize t.hz = hz at *
    refine pd_of (fn := Tryz.f7) [.tmp 6] (by kernel_rfl) rfl (by kernel_rfl) (Nat.le_of_ble_eq_true rfl) (by kernel_rfl) rfl rfl ?_
    (repeat' (first | refine awp_seq ?_ | refine awp_skip ?_ | refine awp_block ?_ | ((first | (refine awpF_region ?_; intro K hK) | (refine awpF_draw (id := 24) [0,1,2,3,4,5,6,7,8,9,10,11,12,13,14,15,16,17,18,19,20,21,22,23,24,25,26,27,28,29,30,31,32,33,34,35,36,37,38,39,40,41,42,43,44,45,46] (by kernel_rfl) (by kernel_rfl) rfl ?_; intro K hK) | (refine awpF_draw (id := 26) [0,1,3,4,5,6,8,9,10,11,2,7,12,13,14,15,16,17,18,19] (by kernel_rfl) (by kernel_rfl) rfl ?_; intro K hK) | refine CallK.pd (h24) ?_ | refine CallK.pg (fun _ => h24) ?_ | refine CallK.pd (h26) ?_ | refine CallK.pg (fun _ => h26) ?_ | refine CallK.pd (h25) ?_ | refine CallK.pg (fun _ => h25) ?_ | refine CallK.pd (h18) ?_ | refine CallK.pg (fun _ => h18) ?_ | refine CallK.pd (h13) ?_ | refine CallK.pg (fun _ => h13) ?_); simp only [push_cast, seval, d5]; refine wObW ?_) | (refine hK _ ?_; clear hK K) | (refine wCd ?_ ?_) | (with_reducible intro hb; exfalso; revert hb; simp [d5]; done) | (with_reducible intro hb; exfalso; replace hb := wHb hb; omega; done) | (with_reducible intro hb; replace hb := wHb hb) | (refine wEx ?_) | (refine wRp ?_; refine fin_of (by simp only [push_cast, seval, d5]; first | done | rfl) ob1 ?_) | (refine inblock_norm ?_)))
    rfl
  have d5 : decide (t.hz > 3) = false := decide_eq_false h4
  have hsh : shE t.flat ((plantV n).length : Int) = 0 → t.wf ∧ t.flat = t.flat := fun _ => ⟨hwf, rfl⟩
  have hre := rk.re (by omega) hchk (by omega)
  have h29 := q29 t.flat (plantV n) t T (by omega) (by omega) (by omega) hsh
  have hL := reL_ok hre
  have hA1 : posA t (plantV n) T = true → reAt t.flat (plantV n) t T = 0 ∧ reWho t.flat (plantV n) t T = [] := fun h => by
    have : reL t.flat (plantV n) t T = false := by rw [hL, h]; rfl
    exact ⟨by rw [reAt, this]; rfl, by rw [reWho, this]; rfl⟩
  have hA2 : posA t (plantV n) T = false → reAt t.flat (plantV n) t T = (lostA t (plantV n) T : Nat) ∧ reWho t.flat (plantV n) t T = whoL t (plantV n) T (lostA t (plantV n) T) 4 := fun h => by
    have : reL t.flat (plantV n) t T = true := by rw [hL, h]; rfl
    exact ⟨by rw [reAt, if_pos this], by rw [reWho, if_pos this]⟩
  have hlt : posA t (plantV n) T = false → lostA t (plantV n) T < T.length := fun h => lost_not rk.ne h
  rw [hre, hL] at h29
  cases hpT : posA t (plantV n) T with
  | true =>
    obtain ⟨a1, a2⟩ := hA1 hpT
    rw [hpT, a1, a2, Bool.not_true] at h29
    generalize t.hz = hz at *
    generalize t.flat.map encNd = H at *
    generalize (plantV n).map encCh = G at *
    refine pd_of (fn := Tryz.f7) [.tmp 6] (by kernel_rfl) rfl (by kernel_rfl) (Nat.le_of_ble_eq_true rfl) (by kernel_rfl) rfl rfl ?_
    (repeat' (first | refine awp_seq ?_ | refine awp_skip ?_ | refine awp_block ?_ | ((first | (refine awpF_region ?_; intro K hK) | (refine awpF_draw (id := 24) [0,1,2,3,4,5,6,7,8,9,10,11,12,13,14,15,16,17,18,19,20,21,22,23,24,25,26,27,28,29,30,31,32,33,34,35,36,37,38,39,40,41,42,43,44,45,46] (by kernel_rfl) (by kernel_rfl) rfl ?_; intro K hK) | (refine awpF_draw (id := 26) [0,1,3,4,5,6,8,9,10,11,2,7,12,13,14,15,16,17,18,19] (by kernel_rfl) (by kernel_rfl) rfl ?_; intro K hK) | refine CallK.pd (h24) ?_ | refine CallK.pg (fun _ => h24) ?_ | refine CallK.pd (h26) ?_ | refine CallK.pg (fun _ => h26) ?_ | refine CallK.pd (h25) ?_ | refine CallK.pg (fun _ => h25) ?_ | refine CallK.pd (h18) ?_ | refine CallK.pg (fun _ => h18) ?_ | refine CallK.pd (h29) ?_ | refine CallK.pg (fun _ => h29) ?_ | refine CallK.pd (h13) ?_ | refine CallK.pg (fun _ => h13) ?_); simp only [push_cast, seval, d5, bne_self_eq_false, beq_self_eq_true]; refine wObW ?_) | (refine hK _ ?_; clear hK K) | (refine wCd ?_ ?_) | (with_reducible intro hb; exfalso; revert hb; simp [d5, bne_self_eq_false, beq_self_eq_true]; done) | (with_reducible intro hb; exfalso; replace hb := wHb hb; omega; done) | (with_reducible intro hb; replace hb := wHb hb) | (refine wEx ?_) | (refine wRp ?_; refine fin_of (by simp only [push_cast, seval, d5, bne_self_eq_false, beq_self_eq_true]; first | done | rfl) ob1 ?_) | (refine inblock_norm ?_)))
    rfl
  | false =>
  obtain ⟨a1, a2⟩ := hA2 hpT
  have hlt := hlt hpT
  rw [hpT, a1, a2, Bool.not_false] at h29
  by_cases hm0 : lostA t (plantV n) T = 0
  · rw [hm0, show whoL t (plantV n) T 0 4 = [] from rfl] at h29
    generalize t.hz = hz at *
    generalize t.flat.map encNd = H at *
    generalize (plantV n).map encCh = G at *
    simp only [Int.natCast_zero] at h29
    refine pd_of (fn := Tryz.f7) [.tmp 6] (by kernel_rfl) rfl (by kernel_rfl) (Nat.le_of_ble_eq_true rfl) (by kernel_rfl) rfl rfl ?_
    (repeat' (first | refine awp_seq ?_ | refine awp_skip ?_ | refine awp_block ?_ | ((first | (refine awpF_region ?_; intro K hK) | (refine awpF_draw (id := 24) [0,1,2,3,4,5,6,7,8,9,10,11,12,13,14,15,16,17,18,19,20,21,22,23,24,25,26,27,28,29,30,31,32,33,34,35,36,37,38,39,40,41,42,43,44,45,46] (by kernel_rfl) (by kernel_rfl) rfl ?_; intro K hK) | (refine awpF_draw (id := 26) [0,1,3,4,5,6,8,9,10,11,2,7,12,13,14,15,16,17,18,19] (by kernel_rfl) (by kernel_rfl) rfl ?_; intro K hK) | refine CallK.pd (h24) ?_ | refine CallK.pg (fun _ => h24) ?_ | refine CallK.pd (h26) ?_ | refine CallK.pg (fun _ => h26) ?_ | refine CallK.pd (h25) ?_ | refine CallK.pg (fun _ => h25) ?_ | refine CallK.pd (h18) ?_ | refine CallK.pg (fun _ => h18) ?_ | refine CallK.pd (h29) ?_ | refine CallK.pg (fun _ => h29) ?_ | refine CallK.pd (h13) ?_ | refine CallK.pg (fun _ => h13) ?_); simp only [push_cast, seval, d5, bne_self_eq_false, beq_self_eq_true]; refine wObW ?_) | (refine hK _ ?_; clear hK K) | (refine wCd ?_ ?_) | (with_reducible intro hb; exfalso; revert hb; simp [d5, bne_self_eq_false, beq_self_eq_true]; done) | (with_reducible intro hb; exfalso; replace hb := wHb hb; omega; done) | (with_reducible intro hb; replace hb := wHb hb) | (refine wEx ?_) | (refine wRp ?_; refine fin_of (by simp only [push_cast, seval, d5, bne_self_eq_false, beq_self_eq_true]; first | done | rfl) ob1 ?_) | (refine inblock_norm ?_)))
    rfl
  have hmem := fun (o : Nat) (ho : o < 4) => whoL_mem (t := t) (p := plantV n) (T := T) hm0 ho
  have hwl := whoL_len t (plantV n) T (lostA t (plantV n) T) 4
  have h35 := fun (o : Nat) => q35 (whoL t (plantV n) T (lostA t (plantV n) T) 4) (o : Int) (by omega)
  generalize whoL t (plantV n) T (lostA t (plantV n) T) 4 = wl at *
  generalize lostA t (plantV n) T = m at *
  obtain ⟨row, hrow⟩ : ∃ x, T[m - 1]? = some x := ⟨_, List.getElem?_eq_getElem (by omega)⟩
  obtain ⟨q, hq⟩ : ∃ x, T[m]? = some x := ⟨_, List.getElem?_eq_getElem hlt⟩
  rw [hq, Option.getD_some] at hmem
  have rkW := rk.take (n := m) (by omega)
  have hWlast := last_take hm0 hrow
  have hWl : (T.take m).length = m := by rw [List.length_take]; omega
  have htkm : (T.map encR).take m = (T.take m).map encR := (List.map_take).symm
  have hrow2 := rk.rows row (List.mem_of_getElem? hrow)
  obtain ⟨q0, q1, rfl⟩ := two_of (rk.rows q (List.mem_of_getElem? hq)).1
  have h30 := p30 (plantV n) row (by omega)
  have hfe : folE (plantV n) row = 0 := by
    unfold folE
    rw [hPok, if_neg (by simp)]
    exact tr_of (by omega) (by simp) fun r hr => by
      obtain rfl := List.mem_singleton.1 hr
      exact ⟨by omega, hrow2.2⟩
  rw [folR, if_pos hfe, hfe] at h30
  have hfl2 := (folV_len (row := row) hPok (by omega)).2
  have hL2 : ∀ r, r ∈ folV (plantV n) row → ∃ x y, r = [x, y] := fun r hr => two_of ((folV_row _ row (pl_ok hPok).2.2.1 (by omega) r hr).1)
  have hkeep : ∀ o : Int, keepA t (plantV n) (T.take m) [q0, q1] o = (folV (plantV n) row).any fun r => ownR (plantV n) o r [q0, q1] && posA t (plantV n) (T.take m ++ [r]) := fun o => by rw [keepA, hWlast]
  have h27 : ∀ r, r ∈ folV (plantV n) row → PD Tryz.prog 27 [.sl (t.flat.map encNd), .sl ((plantV n).map encCh), .sl ((T.take m ++ [r]).map encR)] (.tup [.d (.bool (posA t (plantV n) (T.take m ++ [r]))), .d (.int .i64 0)]) := fun r hr => by
    have rkr := rkW.app hPok hPl (by rw [hWlast]; exact hr)
    have hrr := rkr.re (t := t) (by rw [List.length_append, hWl, List.length_singleton]; omega) hchk (by omega)
    have h := q27 t.flat (plantV n) t (T.take m ++ [r]) (by omega) (by omega) (by rw [List.length_append, hWl, List.length_singleton]; omega) hsh
    rwa [psB_ok hrr, hrr] at h
  have hpv : ∃ c0 c1 : Ch, plantV n = [c0, c1] := ⟨_, _, rfl⟩
  clear hA1 hA2 hL a1 a2 hWlast hsh hre rk rkW hrow2 hPok hPl
  generalize T.take m = W at *
  generalize folV (plantV n) row = L at *
  generalize plantV n = p at *
  obtain ⟨c0, c1, rfl⟩ := hpv
  simp only [hkeep] at hmem
  clear hkeep
  generalize t.hz = hz at *
  generalize t.flat.map encNd = H at *
  have d1 : decide ((m : Int) < 0) = false := decide_eq_false (by omega)
  have d2 : decide ((m : Int) ≥ (T.length : Int)) = false := decide_eq_false (by omega)
  have d0 : ((m : Int) == 0) = false := beq_eq_false_iff_ne.2 (by omega)
  have wm1 : IntKind.i64.wrap ((m : Int) - 1) = ((m - 1 : Nat) : Int) := by rw [wrapI _ (by omega)]; omega
  have hqT : ∀ row, row ∈ T.map encR → row.length = 1 := fun row hr => by obtain ⟨_, _, rfl⟩ := List.mem_map.1 hr; rfl
  have hqL : ∀ row, row ∈ L.map encR → row.length = 1 := fun row hr => by obtain ⟨_, _, rfl⟩ := List.mem_map.1 hr; rfl
  have tW : (W.map encR).take W.length = W.map encR := List.take_of_length_le (by simp)
  have hqw : ∀ row, row ∈ W.map encR → row.length = 1 ∧ row.all D.leaf = true := fun r h => encR_row h
  simp only [List.map_cons, List.map_nil] at h24 h25 h29 h30 h27
  refine pd_of (fn := Tryz.f7) [.tmp 6] (by kernel_rfl) rfl (by kernel_rfl) (Nat.le_of_ble_eq_true rfl) (by kernel_rfl) rfl rfl ?_
  (repeat' (first | refine awp_seq ?_ | refine awp_skip ?_ | refine awp_block ?_ | ((first | ((fail_if_success refine awpF_region (id := 12) ?_); refine awpF_region ?_; intro K hK) | (refine awpF_draw (id := 24) [0,1,2,3,4,5,6,7,8,9,10,11,12,13,14,15,16,17,18,19,20,21,22,23,24,25,26,27,28,29,30,31,32,33,34,35,36,37,38,39,40,41,42,43,44,45,46] (by kernel_rfl) (by kernel_rfl) rfl ?_; intro K hK) | (refine awpF_draw (id := 26) [0,1,3,4,5,6,8,9,10,11,2,7,12,13,14,15,16,17,18,19] (by kernel_rfl) (by kernel_rfl) rfl ?_; intro K hK) | refine CallK.pd (h24) ?_ | refine CallK.pg (fun _ => h24) ?_ | refine CallK.pd (h26) ?_ | refine CallK.pg (fun _ => h26) ?_ | refine CallK.pd (h25) ?_ | refine CallK.pg (fun _ => h25) ?_ | refine CallK.pd (h18) ?_ | refine CallK.pg (fun _ => h18) ?_ | refine CallK.pd (h29) ?_ | refine CallK.pg (fun _ => h29) ?_); simp only [push_cast, seval, d5, bne_self_eq_false, d0, d1, d2]; refine wObW ?_) | (refine hK _ ?_; clear hK K) | (refine wCd ?_ ?_) | (with_reducible intro hb; exfalso; revert hb; simp [d5, bne_self_eq_false, d0, d1, d2]; done) | (with_reducible intro hb; exfalso; replace hb := wHb hb; omega; done) | (with_reducible intro hb; replace hb := wHb hb) | (refine wEx ?_) | (refine wRp ?_; refine fin_of (by simp only [push_cast, seval, d5, bne_self_eq_false, d0, d1, d2]; first | done | rfl) ob1 ?_) | (refine inblock_norm ?_)))
  refine awpF_region ?_; intro K hK; simp only [push_cast, seval, wm1, hrow, encR, Int.toNat_natCast]
  refine wOb ?_
  refine CallK.pd (h30) ?_; refine wXo ?_
  refine hK _ ?_; clear hK K
  (repeat' (first | refine awp_seq ?_ | refine awp_skip ?_ | refine awp_block ?_ | ((first | ((fail_if_success refine awpF_region (id := 15) ?_); refine awpF_region ?_; intro K hK) | (refine awpF_draw (id := 24) [0,1,2,3,4,5,6,7,8,9,10,11,12,13,14,15,16,17,18,19,20,21,22,23,24,25,26,27,28,29,30,31,32,33,34,35,36,37,38,39,40,41,42,43,44,45,46] (by kernel_rfl) (by kernel_rfl) rfl ?_; intro K hK) | (refine awpF_draw (id := 26) [0,1,3,4,5,6,8,9,10,11,2,7,12,13,14,15,16,17,18,19] (by kernel_rfl) (by kernel_rfl) rfl ?_; intro K hK)); simp only [push_cast, seval, bne_self_eq_false]; refine wObW ?_) | (refine hK _ ?_; clear hK K) | (refine wCd ?_ ?_) | (with_reducible intro hb; exfalso; revert hb; simp [bne_self_eq_false]; done) | (with_reducible intro hb; exfalso; replace hb := wHb hb; omega; done) | (with_reducible intro hb; replace hb := wHb hb) | (refine wEx ?_) | (refine wRp ?_; refine fin_of (by simp only [push_cast, seval, bne_self_eq_false]; first | done | rfl) ob1 ?_) | (refine inblock_norm ?_)))
  refine wRg ?_
  refine awp_block ?_
  refine awp_loopP (α := Nat) (st := fun o => ⟨[(7, .d (.sl [encCh c0, encCh c1])), (8, .d (.sl H)), (9, .d (.sl (T.map encR))), (10, .ptr 0 0 0), (13, .d (.sl (L.map encR))), (14, .d (.int .i64 o))], [.cells [.d (.int .i64 m), .d (.sl (wl.map encI))]]⟩)
    (inv := fun o => o ≤ 4) (μ := fun o => 4 - o) (x0 := 0) (r0 := [0]) (Nat.zero_le _) ?_ ?_
  · exact wRen
  intro o ho
  refine awp_seq ?_
  refine awp_seq ?_
  refine wRg ?_
  refine wCd ?_ ?_
  rotate_left
  · intro h1; replace h1 := wHb h1
    (repeat' (first | refine awp_seq ?_ | refine awp_skip ?_ | refine awp_block ?_ | ((first | (refine awpF_region ?_; intro K hK) | (refine awpF_draw (id := 24) [0,1,2,3,4,5,6,7,8,9,10,11,12,13,14,15,16,17,18,19,20,21,22,23,24,25,26,27,28,29,30,31,32,33,34,35,36,37,38,39,40,41,42,43,44,45,46] (by kernel_rfl) (by kernel_rfl) rfl ?_; intro K hK) | (refine awpF_draw (id := 26) [0,1,3,4,5,6,8,9,10,11,2,7,12,13,14,15,16,17,18,19] (by kernel_rfl) (by kernel_rfl) rfl ?_; intro K hK) | refine CallK.pd (h13) ?_ | refine CallK.pg (fun _ => h13) ?_); refine wXo ?_) | (refine hK _ ?_; clear hK K) | (refine wCd ?_ ?_) | (with_reducible intro hb; exfalso; revert hb; simp []; done) | (with_reducible intro hb; exfalso; replace hb := wHb hb; omega; done) | (with_reducible intro hb; replace hb := wHb hb) | (refine wEx ?_) | (refine wRet ?_) | (refine inblock_norm ?_)))
    rfl
  intro h1; replace h1 := wHb h1
  have ho4 : o < 4 := by omega
  have hmo := hmem o ho4
  have k35 := h35 o
  rw [hmo] at k35
  refine awp_skip ?_
  refine awp_seq ?_
  refine awp_block ?_
  refine awp_seq ?_
  refine wRg ?_
  refine awp_seq ?_
  refine awp_seq ?_
  refine wRg ?_
  refine awp_block ?_
  refine awp_loopP (α := Nat) (st := fun i => ⟨[(7, .d (.sl [encCh c0, encCh c1])), (8, .d (.sl H)), (9, .d (.sl (T.map encR))), (10, .ptr 0 0 0), (13, .d (.sl (L.map encR))), (14, .d (.int .i64 o)), (15, .d (.bool ((L.take i).any fun r => ownR [c0, c1] o r [q0, q1] && posA t [c0, c1] (W ++ [r])))), (16, .d (.int .i64 i))], [.cells [.d (.int .i64 m), .d (.sl (wl.map encI))]]⟩)
    (inv := fun i => i ≤ L.length) (μ := fun i => L.length - i) (x0 := 0) (r0 := [0]) (Nat.zero_le _) ?_ ?_
  · simp only [List.take_zero, List.any_nil]
    exact wRen
  intro i hi
  refine awp_seq ?_
  refine awp_seq ?_
  refine wRg ?_
  refine wCd ?_ ?_
  · intro h2; replace h2 := wHb h2
    have hil : i < L.length := by omega
    obtain ⟨r, hr⟩ : ∃ r, L[i]? = some r := ⟨_, List.getElem?_eq_getElem hil⟩
    have hrm := List.mem_of_getElem? hr
    have k27 := h27 r hrm
    obtain ⟨r0, r1, rfl⟩ := hL2 r hrm
    have hat := any_take (g := fun r => ownR [c0, c1] o r [q0, q1] && posA t [c0, c1] (W ++ [r])) hr
    have hown : ownR [c0, c1] o [r0, r1] [q0, q1] = ((decide (c0.owner = o) || decide (r0 = q0)) && (decide (c1.owner = o) || decide (r1 = q1))) := by
      simp only [ownR, Bool.and_true]
    rw [hown] at hat
    have happ : W.map encR ++ [[.sl [[.int .i64 r0], [.int .i64 r1]]]] = (W ++ [[r0, r1]]).map encR := by rw [List.map_append]; rfl
    have hlen : (W ++ [[r0, r1]]).length = W.length + 1 := by rw [List.length_append]; rfl
    generalize posA t [c0, c1] (W ++ [[r0, r1]]) = b at *
    generalize hcj : (L.take i).any (fun r => ownR [c0, c1] o r [q0, q1] && posA t [c0, c1] (W ++ [r])) = cj at *
    generalize hcj' : (L.take (i + 1)).any (fun r => ownR [c0, c1] o r [q0, q1] && posA t [c0, c1] (W ++ [r])) = cj' at *
    generalize W ++ [[r0, r1]] = T' at *
    have tT' : (T'.map encR).take (W.length + 1) = T'.map encR := List.take_of_length_le (by simp [hlen])
    generalize hhis : ((decide (c0.owner = o) || decide (r0 = q0)) && (decide (c1.owner = o) || decide (r1 = q1))) = his at *
    refine awp_skip ?_
    refine awp_mid (fun u => u = ⟨[(7, .d (.sl [encCh c0, encCh c1])), (8, .d (.sl H)), (9, .d (.sl (T.map encR))), (10, .ptr 0 0 0), (13, .d (.sl (L.map encR))), (14, .d (.int .i64 o)), (15, .d (.bool cj')), (16, .d (.int .i64 i))], [.cells [.d (.int .i64 m), .d (.sl (wl.map encI))]]⟩) ?_ ?_
    · refine awp_block ?_
      refine awp_seq ?_
      refine awp_seq ?_
      refine awpF_region ?_; intro K hK; simp only [push_cast, seval, hr, encR, Int.toNat_natCast, List.map_cons, List.map_nil, List.length_cons, List.length_nil, Nat.zero_add, Nat.reduceAdd, bne_self_eq_false]; refine wKk hK ?_; clear hK K
      refine wCd ?_ ?_
      · intro h; cases h
      intro _
      refine awp_skip ?_
      refine awp_mid (fun u => u = ⟨[(7, .d (.sl [encCh c0, encCh c1])), (8, .d (.sl H)), (9, .d (.sl (T.map encR))), (10, .ptr 0 0 0), (13, .d (.sl (L.map encR))), (14, .d (.int .i64 o)), (15, .d (.bool cj)), (16, .d (.int .i64 i)), (17, .d (.bool his))], [.cells [.d (.int .i64 m), .d (.sl (wl.map encI))]]⟩) ?_ ?_
      · have x0 : (c0.owner == (o : Int)) = decide (c0.owner = (o : Int)) := by by_cases h : c0.owner = (o : Int) <;> simp [h]
        have x1 : (c1.owner == (o : Int)) = decide (c1.owner = (o : Int)) := by by_cases h : c1.owner = (o : Int) <;> simp [h]
        have y0 : (r0 == q0) = decide (r0 = q0) := by by_cases h : r0 = q0 <;> simp [h]
        have y1 : (r1 == q1) = decide (r1 = q1) := by by_cases h : r1 = q1 <;> simp [h]
        clear h35 h27 hmem hL2 hat hown k27 k35 hmo happ hlen tT' hcj hcj'
        have g5 : ∀ row : List D, row = [.int .i64 c0.owner, .int .i64 c0.lo, .int .i64 c0.hi, .int .i64 c0.mn, .int .i64 c0.mx] ∨ row = [.int .i64 c1.owner, .int .i64 c1.lo, .int .i64 c1.hi, .int .i64 c1.mn, .int .i64 c1.mx] → row.length = 5 := by
          rintro row (rfl | rfl) <;> rfl
        have g1 : ∀ row : List D, row = [.int .i64 r0] ∨ row = [.int .i64 r1] → row.length = 1 := by
          rintro row (rfl | rfl) <;> rfl
        have g2 : ∀ row : List D, row = [.int .i64 q0] ∨ row = [.int .i64 q1] → row.length = 1 := by
          rintro row (rfl | rfl) <;> rfl
        generalize decide (c0.owner = (o : Int)) = b0 at *
        generalize decide (c1.owner = (o : Int)) = b1 at *
        generalize decide (r0 = q0) = b2 at *
        generalize decide (r1 = q1) = b3 at *
        cases b0 <;> cases b1 <;> cases b2
        all_goals (subst hhis; (refine awpF_draw [0,1,2,3,4,5,6,7,8,9,10,11,12,13,14,15,16,17,18,19,20,21,22,23,24,25,26,27,28,29,30,31,32,33,34,35,36,37,38,39,40,41,42,43,44,45,46] (by kernel_rfl) (by kernel_rfl) rfl ?_; intro K hK; simp only [push_cast, seval, x0, x1, y0, y1, hr, hq, encCh, encR, encI, Int.toNat_natCast, Int.toNat_zero, Int.toNat_one, List.map_cons, List.map_nil, List.getElem?_cons_zero, List.getElem?_cons_succ, Option.getD_some]); (refine wOb ?_); (refine hK _ ?_; clear hK K; refine mid_end [0] _ rfl ?_; exact ⟨by simp, by simp, by simp [push_cast, seval, encCh], by simp [push_cast, seval, encCh], by simp [push_cast, seval, encCh], by simp [push_cast, seval, encCh]⟩))
      rintro _ rfl
      refine awp_seq ?_
      refine awp_seq ?_
      refine wRg ?_
      cases his with
      | false =>
        rw [Bool.false_and, Bool.or_false] at hat
        refine wCd ?_ ?_
        · intro _
          refine wEx ?_
          refine mid_end [0] _ rfl ?_
          rw [hat]
          exact wRen
        · intro h; cases h
      | true =>
        rw [Bool.true_and] at hat
        refine wCd ?_ ?_
        · intro h; cases h
        intro _
        refine awp_skip ?_
        refine awp_mid (fun u => u = ⟨[(7, .d (.sl [encCh c0, encCh c1])), (8, .d (.sl H)), (9, .d (.sl (T.map encR))), (10, .ptr 0 0 0), (13, .d (.sl (L.map encR))), (14, .d (.int .i64 o)), (15, .d (.bool cj)), (16, .d (.int .i64 i)), (18, .d (.bool b)), (19, .d (.int .i64 0))], [.cells [.d (.int .i64 m), .d (.sl (wl.map encI))]]⟩) ?_ ?_
        · refine awpF_drawM [0, 1, 3, 4, 5, 6, 8, 9, 10] [] (DT.or (DT.op 2 (DT.or (DT.op 7 (DT.op 11 (DT.op 12 (DT.op 13 (DT.op 14 (DT.op 15 (DT.op 16 (DT.op 17 (DT.op 18 (DT.op 19 DT.nil)))))))))) (DT.op 11 (DT.or (DT.op 7 (DT.op 12 (DT.op 13 (DT.op 14 (DT.op 15 (DT.op 16 (DT.op 17 (DT.op 18 (DT.op 19 DT.nil))))))))) (DT.op 12 (DT.op 7 (DT.op 13 (DT.op 14 (DT.op 15 (DT.op 16 (DT.op 17 (DT.op 18 (DT.op 19 DT.nil))))))))))))) (DT.op 11 (DT.or (DT.op 2 (DT.or (DT.op 7 (DT.op 12 (DT.op 13 (DT.op 14 (DT.op 15 (DT.op 16 (DT.op 17 (DT.op 18 (DT.op 19 DT.nil))))))))) (DT.op 12 (DT.op 7 (DT.op 13 (DT.op 14 (DT.op 15 (DT.op 16 (DT.op 17 (DT.op 18 (DT.op 19 DT.nil))))))))))) (DT.op 12 (DT.op 2 (DT.op 7 (DT.op 13 (DT.op 14 (DT.op 15 (DT.op 16 (DT.op 17 (DT.op 18 (DT.op 19 DT.nil))))))))))))) (by kernel_rfl) (by kernel_rfl) (by kernel_rfl) ?_; intro K hK; simp only [push_cast, seval, hr, htkm, tW, encR, encI, List.map_cons, List.map_nil, Int.toNat_natCast, List.drop_zero, Int.toNat_zero, Nat.sub_zero, happ, tT']
          repeat' (first
            | (with_reducible refine And.intro ?_ ?_)
            | (refine CallK.pd k27 ?_; simp only [push_cast, seval])
            | exact ob1
            | fail)
          all_goals (refine hK _ ?_; refine mid_end [0] _ rfl ?_; exact wRen)
        rintro _ rfl
        refine awp_seq ?_
        refine awp_seq ?_
        refine awpF_region ?_; intro K hK; simp only [push_cast, seval, bne_self_eq_false]; refine wKk hK ?_; clear hK K
        refine wCd ?_ ?_
        · intro h; cases h
        intro _
        refine awp_skip ?_
        cases cj with
        | true =>
          rw [Bool.true_or] at hat
          refine wRg ?_
          refine inblock_norm ?_
          refine mid_end [0] _ rfl ?_
          rw [hat]
          exact wRen
        | false =>
          rw [Bool.false_or] at hat
          refine wRg ?_
          refine inblock_norm ?_
          refine mid_end [0] _ rfl ?_
          rw [hat]
          exact wRen
    rintro _ rfl
    refine wRg ?_
    refine round_endG (i + 1) [0] ⟨by omega, by omega, ?_⟩
    simp only [hcj']
    push_cast
    exact wRen
  · intro h2; replace h2 := wHb h2
    obtain rfl : i = L.length := by omega
    rw [List.take_length]
    generalize (L.any fun r => ownR [c0, c1] o r [q0, q1] && posA t [c0, c1] (W ++ [r])) = kb at *
    have bl : (kb != kb) = false := by cases kb <;> rfl
    refine wEx ?_
    refine awp_seq ?_
    refine awpF_region ?_; intro K hK; simp only [push_cast, seval]
    refine CallK.pd (k35) ?_; refine wXo ?_
    simp only [push_cast, seval, bl]
    refine wOb ?_
    refine hK _ ?_; clear hK K
    refine wCd ?_ ?_
    · intro h; cases h
    intro _
    refine awp_skip ?_
    refine inblock_norm ?_
    refine wRg ?_
    refine round_endG (o + 1) [0] ⟨by omega, by omega, ?_⟩
    push_cast
    exact wRen
end Go.Aw
