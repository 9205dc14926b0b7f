/-
  Plans: their states are well formed, who holds the new version. No condition.
-/
import Derived.Test.YtmmnjelmahcbaaaGreatPxN34
import Derived.Test.YtmmnjelmahcbaaaGreatPkG
import Derived.Test.YtmmnjelmahcbaaaGreatPkD
namespace Go.Aw
set_option linter.unusedSimpArgs false
set_option linter.unusedVariables false
open Go.RowKit Go.Proofs Go.Nt Go.Rl

theorem shW_row {w : Nat} (h : 2 ≤ w ∧ w ≤ 5) : ((List.range w).Pairwise fun i j => shW w i < shW w j) ∧ shW w 0 = 0 ∧ shW w (w - 1) = 100 := by
  have : w = 2 ∨ w = 3 ∨ w = 4 ∨ w = 5 := by omega
  rcases this with rfl | rfl | rfl | rfl <;> decide
theorem shW_le {w i : Nat} (h : 2 ≤ w ∧ w ≤ 5) (hi : i < w) : shW w i ≤ 100 := by
  obtain ⟨h1, h2, h3⟩ := shW_row h
  rcases Nat.lt_or_ge i (w - 1) with h4 | h4
  · have := (List.pairwise_iff_getElem.1 h1) i (w - 1) (by simpa using hi) (by simp; omega) h4
    simp only [List.getElem_range] at this
    omega
  · obtain rfl : i = w - 1 := by omega
    omega
theorem planW_b (rs : List (Int × Int)) : 2 ≤ planW rs ∧ planW rs ≤ 5 := by unfold planW; omega
theorem plan_len (rs : List (Int × Int)) : (planL rs).length = planW rs := planI_len _ _
theorem stI_ok {w i : Nat} {r : Int × Int} (h : 2 ≤ w ∧ w ≤ 5) (hi : i < w) : stgB (stI w i r) = true := by
  have b1 := modI_bounds (n := r.1) (m := 12) (by decide)
  have b2 := modI_bounds (n := r.2) (m := 5) (by decide)
  have b3 := modI_bounds (n := IntKind.i64.wrap (r.1.tdiv 12)) (m := 4) (by decide)
  have b4 := modI_bounds (n := IntKind.i64.wrap (r.2.tdiv 5)) (m := 4) (by decide)
  have b5 := shW_le h hi
  unfold stgB stI
  simp only [Bool.and_eq_true, decide_eq_true_eq, rateB_iff]
  omega
theorem plan_ok (rs : List (Int × Int)) : stgsC (planL rs) = 0 := by
  have hw := planW_b rs
  have hl := plan_len rs
  have hall : (planL rs).all stgB = true := by
    rw [List.all_eq_true]
    intro s hs
    unfold planL planI at hs
    obtain ⟨i, hi, rfl⟩ := List.mem_map.1 hs
    exact stI_ok hw (List.mem_range.1 hi)
  obtain ⟨h1, h2, h3⟩ := shW_row hw
  have hrow : rowB (planL rs) = true := by
    unfold rowB
    rw [hl]
    simp only [Bool.and_eq_true, decide_eq_true_eq]
    refine ⟨?_, ?_, ?_⟩
    · unfold planL planI
      refine List.pairwise_map.2 (h1.imp fun {i j} h => ?_)
      show (shW (planW rs) i : Int) < (shW (planW rs) j : Int)
      omega
    · unfold planL planI
      rw [List.getElem?_map, List.getElem?_range (by omega)]
      show (shW (planW rs) 0 : Int) = 0
      omega
    · unfold planL planI
      rw [List.getElem?_map, List.getElem?_range (by omega)]
      show (shW (planW rs) (planW rs - 1) : Int) = 100
      omega
  unfold stgsC
  rw [hl, if_neg (by omega), if_neg (by omega), hall, hrow]
  rfl
/-- A state of the plan at some stage is well formed. -/
theorem sta_ok {k ol nw ph st : Int} {rs : List (Int × Int)} (hk : 1 ≤ k ∧ k ≤ 64) (ho : 0 ≤ ol ∧ ol ≤ 1000000) (hn : 0 ≤ nw ∧ nw ≤ 1000000) (hp : ph = 1 ∨ ph = 2 ∨ ph = 3) (hs : 0 ≤ st ∧ st < planW rs) :
    chkS ⟨k, ol, nw, planL rs, ph, st, 0, 0, 0⟩ = if ol = nw then 9 else 0 := by
  have hl := plan_len rs
  have hle : 1 ≤ leO ⟨k, ol, nw, planL rs, ph, st, 0, 0, 0⟩ := by
    unfold leO
    have h1 : st.toNat < (planL rs).length := by omega
    show 1 ≤ (((planL rs)[st.toNat]?).map Stg.le).getD 0
    rw [List.getElem?_eq_getElem h1]
    have h2 := List.all_eq_true.1 (stgs_all (plan_ok rs)).2.2 _ (List.getElem_mem h1)
    unfold stgB at h2
    simp only [Bool.and_eq_true, decide_eq_true_eq] at h2
    show 1 ≤ ((planL rs)[st.toNat]).le
    omega
  have hin : (decide (1 ≤ k ∧ k ≤ 64) && (inB ol && inB nw)) = true := by
    unfold inB
    simp only [Bool.and_eq_true, decide_eq_true_eq]
    omega
  have hph : phB ph = true := by simp only [phB, decide_eq_true_eq]; exact hp
  have hcn : cntB ⟨k, ol, nw, planL rs, ph, st, 0, 0, 0⟩ = true := by
    unfold cntB
    simp only [decide_eq_true_eq]
    rw [hl]
    omega
  unfold chkS
  dsimp only
  rw [hin, if_pos rfl]
  by_cases h : ol = nw
  · rw [if_pos h, if_pos h]
  · rw [if_neg h, if_neg h, plan_ok, if_pos rfl, hph, if_pos rfl, hcn, if_pos rfl, if_pos (Or.inl (by omega))]
theorem fit_2s {x : D} (h : FitA (.sl ty2) x) : ∃ l : List (Int × Int), x = .sl (l.map enc2) ∧ l.length ≤ maxLen := by
  obtain ⟨rows, h1, h2, h3⟩ := fits_sl h
  simp at h1
  subst h1
  obtain ⟨l, rfl⟩ := rows_map (f := enc2) fun row hr => by
    obtain ⟨a, b, e, _⟩ := fits_2 (h3 row hr)
    exact ⟨(a, b), e⟩
  exact ⟨l, rfl, by simpa using h2⟩
end Go.Aw
