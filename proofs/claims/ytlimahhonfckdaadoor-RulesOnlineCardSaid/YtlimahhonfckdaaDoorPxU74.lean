/-
  RulesOnline answers true. Conditions: lengths and numbers that a call can have.
-/
import Derived.Test.YtlimahhonfckdaaDoorPxU73
import Derived.Test.YtlimahhonfckdaaDoorPxU45
namespace Go.Aw
set_option linter.unusedSimpArgs false
set_option linter.unusedVariables false
open Go.RowKit Go.Proofs
set_option maxRecDepth 100000

theorem wtV_cells (w : Wt) : wtV w = [.d (.sl ((w).nodes.map encNd)), .d (.int .i64 (w).width), .d (.int .i64 (w).fr), .d (.sl ((w).rows.map encR)), .d (.sl ((w).opn.map encI))] := rfl
theorem tr_sub {T : List (List Int)} {w : Int} (h : trE T w = 0) {S : List (List Int)} (hs : ∀ r, r ∈ S → r ∈ T) (hl : S.length ≤ T.length) : trE S w = 0 := by
  obtain ⟨h1, h2, h3, h4⟩ := tr_facts h
  exact tr_of ⟨h1, h2⟩ (by omega) fun r hr => h4 r (hs r hr)
def pO (t : Fm) (T : List (List Int)) (n i : Nat) : Bool := decide ((n ≤ i ∨ vd t (T.take n) i = 2) ∧ vd t (T.take (n + 1)) i ≠ 2)
def cO (t : Fm) (T : List (List Int)) (n lo j : Nat) : Nat := (((List.range j).map (lo + ·)).filter (pO t T n)).length
theorem cO_zero (t : Fm) (T : List (List Int)) (n lo : Nat) : cO t T n lo 0 = 0 := rfl
theorem cO_step (t : Fm) (T : List (List Int)) (n lo j : Nat) : cO t T n lo (j + 1) = cO t T n lo j + if pO t T n (lo + j) then 1 else 0 := filter_count
theorem cO_le (t : Fm) (T : List (List Int)) (n lo j : Nat) : cO t T n lo j ≤ j := Nat.le_trans (List.length_filter_le _ _) (by simp)
theorem cond_O {i n u v : Nat} (hu : u ≤ 2) (hv : v ≤ 2) : (bif (bif decide ((i : Int) < (n : Int)) then ((u : Int) != 2) else false) then true else ((v : Int) == 2)) = !decide ((n ≤ i ∨ u = 2) ∧ v ≠ 2) := by
  by_cases h : i < n
  · have h1 : decide ((i : Int) < (n : Int)) = true := decide_eq_true (by omega)
    rw [h1]
    rcases show u = 0 ∨ u = 1 ∨ u = 2 by omega with rfl | rfl | rfl <;> rcases show v = 0 ∨ v = 1 ∨ v = 2 by omega with rfl | rfl | rfl <;> simp <;> omega
  · have h1 : decide ((i : Int) < (n : Int)) = false := decide_eq_false (by omega)
    rw [h1]
    have h2 : n ≤ i := by omega
    rcases show v = 0 ∨ v = 1 ∨ v = 2 by omega with rfl | rfl | rfl <;> simp [h2]
set_option maxHeartbeats 2000000 in
theorem p10 (nums rows : List Int) (hn : numsOk nums) (hrw : numsOk rows) : PD Tryd.prog 10 [.sl (nums.map encI), .sl (rows.map encI)] (.d (.bool true)) := by
  have h13 := p13
  have hw : (1 : Int) ≤ 2 ∧ (2 : Int) ≤ 12 := ⟨by decide, by decide⟩
  have hm : (0 : Int) ≤ 5 ∧ (5 : Int) ≤ 20 := ⟨by decide, by decide⟩
  have h26 := p26 nums 2 5 hn.1 hn.2 hw hm
  rw [show (partT nums 2 5 3 0).1 = ruleT nums 2 5 from rfl] at h26
  have h27 := p27 rows 2 40 hrw.1 hrw.2 (by decide) (by decide)
  have hTl := trace_len rows 2 40
  have hTr0 := trace_ok (l := rows) (w := 2) (most := 40) ⟨by decide, by decide⟩ (by decide) 40
  rw [List.take_of_length_le hTl] at hTr0
  generalize traceT rows 2 40 = T at *
  have hfl := rule_len nums hw hm
  have hW := rule_W nums hw hm
  have hno := rule_ok nums hw hm
  have hbd := hz_bd _ hW.wf hno
  have hz := hW.hz
  have hwf := hW.wf
  have h18 := p18 (ruleT nums 2 5).flat (ruleT nums 2 5) (by omega) (fun _ => ⟨hwf, rfl⟩)
  rw [hz_ok (rule_sh12 nums hw hm)] at h18
  have hchk := rule_chk nums hw hm
  have h39 := p39 (ruleT nums 2 5).flat 2 (ruleT nums 2 5) (by omega) (fun _ => ⟨hwf, rfl⟩)
  rw [bgW, hchk, if_pos rfl] at h39
  have hTr : ∀ n, trE (T.take n) 2 = 0 := fun n => tr_sub hTr0 (fun r hr => List.mem_of_mem_take hr) (by rw [List.length_take]; omega)
  have hTr2 : ∀ k m, trE ((T.take m).drop k) 2 = 0 := fun k m => tr_sub hTr0 (fun r hr => List.mem_of_mem_take (List.mem_of_mem_drop hr)) (by rw [List.length_drop, List.length_take]; omega)
  have hTr1 : ∀ r, r ∈ T → trE [r] 2 = 0 ∧ r.length ≤ 12 := fun r hr => ⟨tr_sub hTr0 (fun q hq => by rw [List.mem_singleton.1 hq]; exact hr) (by have := List.length_pos_of_mem hr; simp only [List.length_singleton]; omega), by have := (tr_facts hTr0).2.2.2 r hr; omega⟩
  have h24 : ∀ n i : Nat, i ≤ 40 → PD Tryd.prog 24 [.sl ((ruleT nums 2 5).flat.map encNd), .int .i64 2, .sl ((T.take n).map encR), .int .i64 i] (.tup [.d (.int .i64 (vd (ruleT nums 2 5) (T.take n) i : Nat)), .d (.int .i64 0)]) := fun n i hi => by
    have h := p24 (ruleT nums 2 5).flat 2 (ruleT nums 2 5) (T.take n) i (by omega) (fun _ => ⟨hwf, rfl⟩) (by omega)
    obtain ⟨e1, e2⟩ := ev_ok hchk (hTr n) i
    rwa [e1, e2] at h
  have hv2 := fun (n i : Nat) => vd_le (ruleT nums 2 5) (T.take n) i
  generalize ruleT nums 2 5 = t at *
  obtain ⟨H, hH⟩ : ∃ H : Nat, t.hz = H := ⟨t.hz.toNat, by omega⟩
  rw [hH] at h18 hz
  have h40 : ∀ (n : Nat) (row : List Int), T[n]? = some row → PD Tryd.prog 40 [.agg (wtD (watchA t 2 T n)), .sl (row.map encI)] (.tup [.agg (wtV (watchA t 2 T (n + 1))), .d (.sl (((sayA t T n).map fun (i : Nat) => ((i : Int), decide (vd t (T.take (n + 1)) i = 1))).map encSd)), .d (.int .i64 0)]) := fun n row hrow => by
    have hlt : n < T.length := (List.getElem?_eq_some_iff.1 hrow).1
    obtain ⟨q1, q2⟩ := hTr1 row (List.mem_of_getElem? hrow)
    have hok := watch_ok hchk hTr2 (Nat.le_of_lt hlt) (by omega)
    have hfr := frA_n t T n
    have hrl : (watchA t 2 T n).rows.length ≤ 40 := by simp only [watchA, List.length_drop, List.length_take]; omega
    have hol : (watchA t 2 T n).opn.length ≤ 40 := by
      simp only [watchA, List.length_map, opA]
      have := List.length_filter_le (fun i => decide (vd t (T.take n) i = 2)) (List.range n)
      rw [List.length_range] at this
      omega
    have hE : pushE t (watchA t 2 T n) row = 0 := by
      rw [pushE, hok, if_neg (by simp), show (watchA t 2 T n).width = 2 from rfl, q1, if_neg (by simp), if_neg]
      have : (watchA t 2 T n).fr = frA t T n := rfl
      omega
    have h := p40 (watchA t 2 T n) t row (by show t.flat.length ≤ 1000000; omega) (fun _ => ⟨hwf, rfl⟩) (by omega) (by omega) (by omega)
    rw [puW, puS, hE, if_pos rfl, if_pos rfl, push_A hrow, said_A hrow] at h
    exact h
  have hkeep := fun (n : Nat) (h : n ≤ T.length) => keep_A (w := 2) hwf hno hH h
  have hsay := fun (n : Nat) (h : n < T.length) => say_A (T := T) hwf hno hH h
  have hW0 : wtV ⟨t.flat, 2, 0, [], []⟩ = wtV (watchA t 2 T 0) := by
    simp only [watchA, frA_zero, List.take_zero, List.drop_nil]
    rfl
  rw [hW0] at h39
  clear hW0
  generalize t.flat.map encNd = F at *
  have hqT : ∀ row, row ∈ T.map encR → row.length = 1 := fun row hr => by obtain ⟨_, _, rfl⟩ := List.mem_map.1 hr; rfl
  push_cast at h27 hz
  simp only [wtV_cells] at h39 h40
  refine pd_of (fn := Tryd.f10) [.tmp 4] (by kernel_rfl) rfl (by kernel_rfl) (Nat.le_of_ble_eq_true rfl) (by kernel_rfl) rfl rfl ?_
  refine awp_seq ?_
  refine awpF_region ?_; intro K hK; simp only [push_cast, seval]; (try simp (disch := omega) only [wrapI]); (repeat ((with_reducible refine And.intro ?_ ?_); (focus (exact ob1)))); refine hK _ ?_; clear hK K
  refine awp_seq ?_
  refine awpF_region ?_; intro K hK; simp only [push_cast, seval]
  refine CallK.pd (h26) ?_; simp only [push_cast, seval]; (try simp (disch := omega) only [wrapI]); (repeat ((with_reducible refine And.intro ?_ ?_); (focus (exact ob1))))
  refine CallK.pd (h27) ?_; simp only [push_cast, seval]; (try simp (disch := omega) only [wrapI]); (repeat ((with_reducible refine And.intro ?_ ?_); (focus (exact ob1))))
  refine hK _ ?_; clear hK K
  refine awp_seq ?_
  refine awpF_region ?_; intro K hK; simp only [push_cast, seval]
  refine CallK.pd (h18) ?_; simp only [push_cast, seval]; (try simp (disch := omega) only [wrapI]); (repeat ((with_reducible refine And.intro ?_ ?_); (focus (exact ob1))))
  refine hK _ ?_; clear hK K
  refine awp_seq ?_
  refine awpF_region ?_; intro K hK; simp only [push_cast, seval]
  refine CallK.pd (h39) ?_; simp only [push_cast, seval]; (try simp (disch := omega) only [wrapI]); (repeat ((with_reducible refine And.intro ?_ ?_); (focus (exact ob1))))
  refine hK _ ?_; clear hK K
  refine awp_seq ?_
  refine awp_seq ?_
  refine awpF_region ?_; intro K hK; simp only [push_cast, seval, bne_self_eq_false]; (try simp (disch := omega) only [wrapI]); (repeat ((with_reducible refine And.intro ?_ ?_); (focus (exact ob1)))); refine hK _ ?_; clear hK K
  apply awp_cond; (focus (simp only [push_cast, seval]; rfl))
  · intro h; cases h
  intro _
  refine awp_skip ?_
  refine awp_seq ?_
  refine awp_seq ?_
  refine awpF_region ?_; intro K hK; simp only [push_cast, seval]; (try simp (disch := omega) only [wrapI]); (repeat ((with_reducible refine And.intro ?_ ?_); (focus (exact ob1)))); refine hK _ ?_; clear hK K
  refine awp_block ?_
  refine awp_loopP (α := Nat) (st := fun n => ⟨[(5, .d (.sl F)), (6, .d (.sl (T.map encR))), (7, .d (.int .i64 H)), (8, .ptr 0 0 0), (10, .d (.int .i64 n))], [.cells [.d (.sl ((watchA t 2 T n).nodes.map encNd)), .d (.int .i64 (watchA t 2 T n).width), .d (.int .i64 (watchA t 2 T n).fr), .d (.sl ((watchA t 2 T n).rows.map encR)), .d (.sl ((watchA t 2 T n).opn.map encI))]]⟩) (inv := fun n => n ≤ T.length) (μ := fun n => T.length - n) (x0 := 0) (r0 := [0]) (Nat.zero_le _) ?_ ?_
  · exact ⟨by simp, by simp, by simp [push_cast, seval], by simp [push_cast, seval], by simp [push_cast, seval], by simp [push_cast, seval]⟩
  intro n hnl
  refine awp_seq ?_
  refine awp_seq ?_
  refine awpF_region ?_; intro K hK; simp only [push_cast, seval]; (try simp (disch := omega) only [wrapI]); (repeat ((with_reducible refine And.intro ?_ ?_); (focus (exact ob1)))); refine hK _ ?_; clear hK K
  apply awp_cond; (focus (simp only [push_cast, seval]; rfl))
  · intro h1; (try simp only [decide_eq_true_eq, decide_eq_false_iff_not, Bool.not_eq_true', Bool.not_eq_false', Bool.and_eq_true, Bool.or_eq_true, Bool.not_eq_true] at h1)
    have hlt : n < T.length := by omega
    obtain ⟨row, hrow⟩ : ∃ x, T[n]? = some x := ⟨_, List.getElem?_eq_getElem hlt⟩
    have k40 := h40 n row hrow
    have hkp := hkeep (n + 1) hlt
    have hsy := hsay n hlt
    have e24 := h24 n
    have f24 := h24 (n + 1)
    have v1 := hv2 n
    have v2 := hv2 (n + 1)
    have tk1 : ((T.map encR).take n) = (T.take n).map encR := (List.map_take).symm
    have tk2 : ((T.map encR).take (n + 1)) = (T.take (n + 1)).map encR := (List.map_take).symm
    simp only [wtD] at k40
    obtain ⟨lo, hlo⟩ : ∃ lo : Nat, n - H = lo := ⟨_, rfl⟩
    rw [hlo] at hsy
    have hwr : IntKind.i64.wrap ((n : Int) - (H : Int)) = (n : Int) - (H : Int) := wrapI _ (by omega)
    have wn1 : IntKind.i64.wrap ((n : Int) + 1) = (n : Int) + 1 := wrapI _ (by omega)
    have tn1 : ((n : Int) + 1).toNat = n + 1 := by omega
    have hmax : max (0 : Int) ((n : Int) - (H : Int)) = (lo : Int) := by omega
    have hse : (sayA t T n).length = cO t T n lo (n + 1 - lo) := by rw [hsy]; rfl
    rw [show (fun i => decide ((n ≤ i ∨ vd t (T.take n) i = 2) ∧ vd t (T.take (n + 1)) i ≠ 2)) = pO t T n from rfl] at hsy
    generalize hSL : (sayA t T n).map (fun (i : Nat) => ((i : Int), decide (vd t (T.take (n + 1)) i = 1))) = SL at *
    have hsll : SL.length = cO t T n lo (n + 1 - lo) := by rw [← hse, ← hSL, List.length_map]
    generalize watchA t 2 T n = W at *
    generalize hW1 : watchA t 2 T (n + 1) = W1 at *
    have hd : decide ((W1.rows.length : Int) > (H : Int)) = false := decide_eq_false (by omega)
    refine awp_skip ?_
    refine awp_seq ?_
    refine awp_block ?_
    refine awp_seq ?_
    refine awpF_drawT (DT.op 0 (DT.op 1 (DT.op 2 (DT.op 3 (DT.op 4 (DT.or (DT.op 5 (DT.op 6 (DT.op 7 (DT.or (DT.op 8 (DT.or (DT.op 9 (DT.op 10 (DT.op 11 (DT.op 12 (DT.op 13 DT.nil))))) (DT.op 10 (DT.or (DT.op 9 (DT.op 11 (DT.op 12 (DT.op 13 DT.nil)))) (DT.op 11 (DT.op 9 (DT.op 12 (DT.op 13 DT.nil)))))))) (DT.or (DT.op 9 (DT.or (DT.op 8 (DT.op 10 (DT.op 11 (DT.op 12 (DT.op 13 DT.nil))))) (DT.op 10 (DT.or (DT.op 8 (DT.op 11 (DT.op 12 (DT.op 13 DT.nil)))) (DT.op 11 (DT.op 8 (DT.op 12 (DT.op 13 DT.nil)))))))) (DT.op 10 (DT.or (DT.op 8 (DT.or (DT.op 9 (DT.op 11 (DT.op 12 (DT.op 13 DT.nil)))) (DT.op 11 (DT.op 9 (DT.op 12 (DT.op 13 DT.nil)))))) (DT.or (DT.op 9 (DT.or (DT.op 8 (DT.op 11 (DT.op 12 (DT.op 13 DT.nil)))) (DT.op 11 (DT.op 8 (DT.op 12 (DT.op 13 DT.nil)))))) (DT.op 11 (DT.op 8 (DT.op 9 (DT.op 12 (DT.op 13 DT.nil))))))))))))) (DT.op 10 (DT.op 5 (DT.op 6 (DT.op 7 (DT.or (DT.op 8 (DT.or (DT.op 9 (DT.op 11 (DT.op 12 (DT.op 13 DT.nil)))) (DT.op 11 (DT.op 9 (DT.op 12 (DT.op 13 DT.nil)))))) (DT.or (DT.op 9 (DT.or (DT.op 8 (DT.op 11 (DT.op 12 (DT.op 13 DT.nil)))) (DT.op 11 (DT.op 8 (DT.op 12 (DT.op 13 DT.nil)))))) (DT.op 11 (DT.op 8 (DT.op 9 (DT.op 12 (DT.op 13 DT.nil))))))))))))))))) (by kernel_rfl) (by kernel_rfl) (by kernel_rfl) ?_; intro K hK; apply dt_close; (rotate_left; (intro fin; (focus (simp only [push_cast, seval, hrow, encR, Int.toNat_natCast]; (try simp (disch := omega) only [wrapI]); (repeat' (first | exact fin | (with_reducible refine And.intro ?_ ?_) | (refine CallK.pd (k40) ?_; simp only [push_cast, seval, hrow, encR, Int.toNat_natCast]; (try simp (disch := omega) only [wrapI])) | (refine CallK.pg (fun _ => k40) ?_; simp only [push_cast, seval, hrow, encR, Int.toNat_natCast]; (try simp (disch := omega) only [wrapI])) | exact ob1)))))); refine hK _ ?_; clear hK K
    refine awp_seq ?_
    refine awp_seq ?_
    refine awpF_region ?_; intro K hK; simp only [push_cast, seval, bne_self_eq_false, List.length_map, hd]; (try simp (disch := omega) only [wrapI]); (repeat ((with_reducible refine And.intro ?_ ?_); (focus (exact ob1)))); refine hK _ ?_; clear hK K
    apply awp_cond; (focus (simp only [push_cast, seval]; rfl))
    · intro h; cases h
    intro _
    refine awp_skip ?_
    refine awp_seq ?_
    refine awpF_region ?_; intro K hK; simp only [push_cast, seval]; (try simp (disch := omega) only [wrapI]); (repeat ((with_reducible refine And.intro ?_ ?_); (focus (exact ob1)))); refine hK _ ?_; clear hK K
    refine awp_seq ?_
    refine awp_seq ?_
    refine awpF_region ?_; intro K hK; simp only [push_cast, seval, hwr, hmax]
    (repeat ((with_reducible refine And.intro ?_ ?_); (focus (exact ob1))))
    refine hK _ ?_; clear hK K
    refine awp_block ?_
    refine awp_loopP (α := Nat) (st := fun i => ⟨[(5, .d (.sl F)), (6, .d (.sl (T.map encR))), (7, .d (.int .i64 H)), (8, .ptr 0 0 0), (10, .d (.int .i64 n)), (11, .ptr 1 0 0), (12, .d (.sl (SL.map encSd))), (14, .d (.int .i64 (cO t T n lo (i - lo) : Nat))), (15, .d (.int .i64 i))], [.cells [.d (.sl ((W).nodes.map encNd)), .d (.int .i64 (W).width), .d (.int .i64 (W).fr), .d (.sl ((W).rows.map encR)), .d (.sl ((W).opn.map encI))], .cells [.d (.sl ((W1).nodes.map encNd)), .d (.int .i64 (W1).width), .d (.int .i64 (W1).fr), .d (.sl ((W1).rows.map encR)), .d (.sl ((W1).opn.map encI))]]⟩)
      (inv := fun i => lo ≤ i ∧ i ≤ n + 1) (μ := fun i => n + 1 - i) (x0 := lo) (r0 := [0, 1]) ⟨Nat.le_refl _, by omega⟩ ?_ ?_
    · rw [Nat.sub_self, cO_zero]
      exact ⟨by simp, by simp, by simp [push_cast, seval], by simp [push_cast, seval], by simp [push_cast, seval], by simp [push_cast, seval]⟩
    rintro i ⟨hi1, hi2⟩
    refine awp_seq ?_
    refine awp_seq ?_
    refine awpF_region ?_; intro K hK; simp only [push_cast, seval]; (try simp (disch := omega) only [wrapI]); (repeat ((with_reducible refine And.intro ?_ ?_); (focus (exact ob1)))); refine hK _ ?_; clear hK K
    apply awp_cond; (focus (simp only [push_cast, seval]; rfl))
    · intro h2; (try simp only [decide_eq_true_eq, decide_eq_false_iff_not, Bool.not_eq_true', Bool.not_eq_false', Bool.and_eq_true, Bool.or_eq_true, Bool.not_eq_true] at h2)
      have hin : i ≤ n := by omega
      have k24 := f24 i (by omega)
      have l24 := e24 i (by omega)
      have u1 := v1 i
      have u2 := v2 i
      have hnx := fun h => filter_next (p := pO t T n) (lo := lo) (m := n + 1 - lo) (k := i - lo) (by omega) h
      have hct := cO_step t T n lo (i - lo)
      have hcl := cO_le t T n lo (i - lo)
      rw [show i - lo + 1 = i + 1 - lo by omega] at hct
      rw [show lo + (i - lo) = i by omega] at hnx hct
      have hp : pO t T n i = decide ((n ≤ i ∨ vd t (T.take n) i = 2) ∧ vd t (T.take (n + 1)) i ≠ 2) := rfl
      have hsl : ∀ k, (sayA t T n)[k]? = some i → SL[k]? = some ((i : Int), decide (vd t (T.take (n + 1)) i = 1)) := fun k hk => by rw [← hSL, List.getElem?_map, hk]; rfl
      rw [hsy] at hsl
      have hnx2 := fun h => hsl _ (hnx h)
      rw [show (((List.range (i - lo)).map (lo + ·)).filter (pO t T n)).length = cO t T n lo (i - lo) from rfl] at hnx2
      clear hnx hsl
      generalize vd t (T.take n) i = u at *
      generalize vd t (T.take (n + 1)) i = v at *
      have hc := cond_O (i := i) (n := n) u1 u2
      rw [← hp] at hc
      generalize cO t T n lo (i - lo) = k at *
      refine awp_skip ?_
      refine awp_seq ?_
      refine awp_block ?_
      refine awp_seq ?_
      refine awpF_region ?_; intro K hK; simp only [push_cast, seval, List.drop_zero, Int.toNat_zero, Nat.sub_zero, wn1, tn1, tk2, Int.toNat_natCast]
      (repeat ((with_reducible refine And.intro ?_ ?_); (focus (exact ob1))))
      refine CallK.pd (k24) ?_; simp only [push_cast, seval]; (try simp (disch := omega) only [wrapI]); (repeat ((with_reducible refine And.intro ?_ ?_); (focus (exact ob1))))
      refine hK _ ?_; clear hK K
      refine awp_seq ?_
      refine awpF_region ?_; intro K hK; simp only [push_cast, seval, List.drop_zero, Int.toNat_zero, Nat.sub_zero, tk1, Int.toNat_natCast]
      (repeat ((with_reducible refine And.intro ?_ ?_); (focus (exact ob1))))
      refine CallK.pd (l24) ?_; simp only [push_cast, seval]; (try simp (disch := omega) only [wrapI]); (repeat ((with_reducible refine And.intro ?_ ?_); (focus (exact ob1))))
      refine hK _ ?_; clear hK K
      refine awp_seq ?_
      refine awp_seq ?_
      refine awpF_region ?_; intro K hK; simp only [push_cast, seval, bne_self_eq_false]; (try simp (disch := omega) only [wrapI]); (repeat ((with_reducible refine And.intro ?_ ?_); (focus (exact ob1)))); refine hK _ ?_; clear hK K
      apply awp_cond; (focus (simp only [push_cast, seval]; rfl))
      · intro h; cases h
      intro _
      refine awp_skip ?_
      refine awp_seq ?_
      refine awp_seq ?_
      refine awpF_region ?_; intro K hK; simp only [push_cast, seval]
      refine ⟨fun h => by rw [h]; rfl, ?_⟩
      simp only [hc]
      refine hK _ ?_; clear hK K
      apply awp_cond; (focus (simp only [push_cast, seval]; rfl))
      · intro h
        have hpf : pO t T n i = false := by simpa using h
        rw [hpf, if_neg (by decide), Nat.add_zero] at hct
        refine awp_exit ?_; (repeat (first | refine then_exit ?_ | refine inblock_other (by decide) ?_)); refine inblock_same ?_
        refine awpF_region ?_; intro K hK; simp only [push_cast, seval]; (try simp (disch := omega) only [wrapI]); (repeat ((with_reducible refine And.intro ?_ ?_); (focus (exact ob1)))); refine hK _ ?_; clear hK K
        refine round_endG (i + 1) [0, 1] ⟨by omega, ⟨by omega, by omega⟩, ?_⟩
        rw [hct]
        push_cast
        exact ⟨by simp, by simp, by simp [push_cast, seval], by simp [push_cast, seval], by simp [push_cast, seval], by simp [push_cast, seval]⟩
      · intro h
        have hpt : pO t T n i = true := by simpa using h
        rw [hpt, if_pos rfl] at hct
        have hk := hnx2 hpt
        have hkl : k < SL.length := (List.getElem?_eq_some_iff.1 hk).1
        have hd2 : decide ((k : Int) ≥ (SL.length : Int)) = false := decide_eq_false (by omega)
        have hv1 : ((v : Int) == 1) = decide (v = 1) := by
          rcases show v = 0 ∨ v = 1 ∨ v = 2 by omega with rfl | rfl | rfl <;> rfl
        refine awp_skip ?_
        refine awp_seq ?_
        refine awp_seq ?_
        refine awpF_region ?_; intro K hK; simp only [push_cast, seval, hk, encSd, Int.toNat_natCast, hd2, hv1, beq_self_eq_true, bne_self_eq_false]; (try simp (disch := omega) only [wrapI]); (repeat ((with_reducible refine And.intro ?_ ?_); (focus (exact ob1)))); refine hK _ ?_; clear hK K
        apply awp_cond; (focus (simp only [push_cast, seval]; rfl))
        · intro h; cases h
        intro _
        refine awp_skip ?_
        refine awpF_region ?_; intro K hK; simp only [push_cast, seval]; (try simp (disch := omega) only [wrapI]); (repeat ((with_reducible refine And.intro ?_ ?_); (focus (exact ob1)))); refine hK _ ?_; clear hK K
        refine inblock_norm ?_
        refine awpF_region ?_; intro K hK; simp only [push_cast, seval]; (try simp (disch := omega) only [wrapI]); (repeat ((with_reducible refine And.intro ?_ ?_); (focus (exact ob1)))); refine hK _ ?_; clear hK K
        refine round_endG (i + 1) [0, 1] ⟨by omega, ⟨by omega, by omega⟩, ?_⟩
        rw [hct]
        push_cast
        exact ⟨by simp, by simp, by simp [push_cast, seval], by simp [push_cast, seval], by simp [push_cast, seval], by simp [push_cast, seval]⟩
    · intro h2; (try simp only [decide_eq_true_eq, decide_eq_false_iff_not, Bool.not_eq_true', Bool.not_eq_false', Bool.and_eq_true, Bool.or_eq_true, Bool.not_eq_true] at h2)
      obtain rfl : i = n + 1 := by omega
      refine awp_exit ?_; (repeat (first | refine then_exit ?_ | refine inblock_other (by decide) ?_)); refine inblock_same ?_
      rw [← hsll]
      refine awp_seq ?_
      refine awp_seq ?_
      refine awpF_region ?_; intro K hK; simp only [push_cast, seval, bne_self_eq_false]; (try simp (disch := omega) only [wrapI]); (repeat ((with_reducible refine And.intro ?_ ?_); (focus (exact ob1)))); refine hK _ ?_; clear hK K
      apply awp_cond; (focus (simp only [push_cast, seval]; rfl))
      · intro h; cases h
      intro _
      refine awp_skip ?_
      refine awpF_region ?_; intro K hK; simp only [push_cast, seval]; (try simp (disch := omega) only [wrapI]); (repeat ((with_reducible refine And.intro ?_ ?_); (focus (exact ob1)))); refine hK _ ?_; clear hK K
      refine inblock_norm ?_
      refine awpF_region ?_; intro K hK; simp only [push_cast, seval]; (try simp (disch := omega) only [wrapI]); (repeat ((with_reducible refine And.intro ?_ ?_); (focus (exact ob1)))); refine hK _ ?_; clear hK K
      refine round_endG (n + 1) [0] ⟨by omega, by omega, ?_⟩
      rw [hW1]
      push_cast
      exact ⟨by simp, by simp, by simp [push_cast, seval], by simp [push_cast, seval], by simp [push_cast, seval], by simp [push_cast, seval]⟩
  · intro h1; (try simp only [decide_eq_true_eq, decide_eq_false_iff_not, Bool.not_eq_true', Bool.not_eq_false', Bool.and_eq_true, Bool.or_eq_true, Bool.not_eq_true] at h1)
    refine awp_exit ?_; (repeat (first | refine then_exit ?_ | refine inblock_other (by decide) ?_)); refine inblock_same ?_
    refine awp_seq ?_
    refine awpF_region ?_; intro K hK; simp only [push_cast, seval]
    refine CallK.pd (h13) ?_; simp only [push_cast, seval]; (try simp (disch := omega) only [wrapI]); (repeat ((with_reducible refine And.intro ?_ ?_); (focus (exact ob1))))
    refine hK _ ?_; clear hK K
    refine awp_ret ?_; (repeat (first | refine then_ret ?_ | refine inblock_ret ?_ | refine nogoto_ret ?_)); refine fin_of (by simp only [push_cast, seval]; first | done | rfl) ob1 ?_
    rfl
end Go.Aw
