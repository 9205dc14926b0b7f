/-
  Readings of the rules' arguments: arrays of rows and of numbers. No condition.
-/
import Derived.Test.YtlimahhonfckdaaDoorRuG
import Derived.Test.YtlimahhonfckdaaDoorPxU66
namespace Go.Aw
set_option linter.unusedSimpArgs false
set_option linter.unusedVariables false
open Go.RowKit

theorem fits_arrL : ∀ (n : Nat) {xs : List D}, Fits (.arr n (.sl (.int .i64))) xs → ∃ l : List (List Int), xs = nmD l ∧ l.length = n ∧ ∀ r, r ∈ l → r.length ≤ reachBytes ∧ ∀ v, v ∈ r → i64 v
  | 0, xs, h => ⟨[], fits_arr0 h, rfl, by simp⟩
  | n + 1, xs, h => by
    obtain ⟨ys, zs, rfl, h1, h2⟩ := fits_arrS h
    obtain ⟨r, rfl, hr⟩ := fits_longs h1
    obtain ⟨l, rfl, hl, hh⟩ := fits_arrL n h2
    refine ⟨r :: l, rfl, by simp [hl], fun q hq => ?_⟩
    rcases List.mem_cons.1 hq with rfl | hq
    · exact hr
    · exact hh q hq
theorem fits_arrI : ∀ (n : Nat) {xs : List D}, Fits (.arr n (.int .i64)) xs → ∃ l : List Int, xs = nI l ∧ l.length = n ∧ ∀ v, v ∈ l → i64 v
  | 0, xs, h => ⟨[], fits_arr0 h, rfl, by simp⟩
  | n + 1, xs, h => by
    obtain ⟨ys, zs, rfl, h1, h2⟩ := fits_arrS h
    obtain ⟨a, rfl, ha⟩ := fits_int h1
    obtain ⟨l, rfl, hl, hh⟩ := fits_arrI n h2
    refine ⟨a :: l, rfl, by simp [hl], fun q hq => ?_⟩
    rcases List.mem_cons.1 hq with rfl | hq
    · exact wf_i64 ha
    · exact hh q hq
theorem fit_arrL {n : Nat} {x : D} (h : FitA (.arr n (.sl (.int .i64))) x) : ∃ l : List (List Int), x = .agg (nmD l) ∧ l.length = n ∧ ∀ r, r ∈ l → r.length ≤ reachBytes ∧ ∀ v, v ∈ r → i64 v := by
  obtain ⟨xs, rfl, h⟩ := h
  obtain ⟨l, rfl, hl⟩ := fits_arrL n h
  exact ⟨l, rfl, hl⟩
theorem fit_arrI {n : Nat} {x : D} (h : FitA (.arr n (.int .i64)) x) : ∃ l : List Int, x = .agg (nI l) ∧ l.length = n ∧ ∀ v, v ∈ l → i64 v := by
  obtain ⟨xs, rfl, h⟩ := h
  obtain ⟨l, rfl, hl⟩ := fits_arrI n h
  exact ⟨l, rfl, hl⟩
end Go.Aw
