/-
  Rows: readings of the commonest arguments. Over any program; no condition.
-/
import Derived.Test.YtmmnjelmahcbaaaAwRw
namespace Go.Aw
set_option linter.unusedSimpArgs false
set_option linter.unusedVariables false
open Go.RowKit

theorem fitAs_cons {t : Ty} {ts : List Ty} {xs : List D} (h : FitAs (t :: ts) xs) : ∃ x r, xs = x :: r ∧ FitA t x ∧ FitAs ts r := by
  cases xs with
  | nil => exact h.elim
  | cons x r => exact ⟨x, r, rfl, h.1, h.2⟩
theorem fitAs_nil {xs : List D} (h : FitAs [] xs) : xs = [] := by
  cases xs with
  | nil => rfl
  | cons x r => exact h.elim

theorem fits_int {k : IntKind} {xs : List D} (h : Fits (.int k) xs) : ∃ n, xs = [.int k n] ∧ (Lit.int k n).wf = true := by
  cases h with | int k n h => exact ⟨n, rfl, h⟩
theorem fits_bool {xs : List D} (h : Fits .bool xs) : ∃ b, xs = [.bool b] := by
  cases h with | bool b => exact ⟨b, rfl⟩
theorem fits_str {xs : List D} (h : Fits .str xs) : ∃ s, xs = [.str s] ∧ s.size ≤ maxLen := by
  cases h with | str s h => exact ⟨s, rfl, h⟩
theorem fits_unit {xs : List D} (h : Fits .unit xs) : xs = [] := by
  cases h; rfl
theorem fits_pair {a b : Ty} {xs : List D} (h : Fits (.pair a b) xs) : ∃ ys zs, xs = ys ++ zs ∧ Fits a ys ∧ Fits b zs := by
  cases h with | pair a b ys zs h1 h2 => exact ⟨ys, zs, rfl, h1, h2⟩
theorem fits_st {fs : Ty} {xs : List D} (h : Fits (.st fs) xs) : Fits fs xs := by
  cases h with | st fs xs h => exact h
theorem fits_sl {e : Ty} {xs : List D} (h : Fits (.sl e) xs) : ∃ rows, xs = [.sl rows] ∧ rows.length ≤ maxLen ∧ ∀ row, row ∈ rows → Fits e row := by
  cases h with | sl e rows hl h => exact ⟨rows, rfl, hl, h⟩
theorem fits_arr0 {e : Ty} {xs : List D} (h : Fits (.arr 0 e) xs) : xs = [] := by
  cases h; rfl
theorem fits_arrS {n : Nat} {e : Ty} {xs : List D} (h : Fits (.arr (n + 1) e) xs) : ∃ ys zs, xs = ys ++ zs ∧ Fits e ys ∧ Fits (.arr n e) zs := by
  cases h with | arrS n e ys zs h1 h2 => exact ⟨ys, zs, rfl, h1, h2⟩

theorem wf_i64 {n : Int} (h : (Lit.int .i64 n).wf = true) : -9223372036854775808 ≤ n ∧ n ≤ 9223372036854775807 := by
  simp only [Lit.wf, IntKind.min, IntKind.max, IntKind.bits, IntKind.signed] at h
  simp at h
  omega

theorem fit_int {x : D} (h : FitA (.int .i64) x) : ∃ n, x = .int .i64 n ∧ -9223372036854775808 ≤ n ∧ n ≤ 9223372036854775807 := by
  obtain ⟨n, h1, h2⟩ := fits_int h
  simp at h1
  exact ⟨n, h1, wf_i64 h2⟩
theorem fit_bool {x : D} (h : FitA .bool x) : ∃ b, x = .bool b := by
  obtain ⟨n, h1⟩ := fits_bool h
  simp at h1
  exact ⟨n, h1⟩

/-- Rows that are all told by something. -/
theorem rows_map {α : Type} {f : α → List D} : ∀ {rows : List (List D)}, (∀ row, row ∈ rows → ∃ a, row = f a) → ∃ l : List α, rows = l.map f
  | [], _ => ⟨[], rfl⟩
  | r :: rows, h => by
    obtain ⟨a, ha⟩ := h r (by simp)
    obtain ⟨l, hl⟩ := rows_map (rows := rows) fun row hr => h row (by simp [hr])
    exact ⟨a :: l, by simp [ha, hl]⟩
theorem rows_mapP {α : Type} {f : α → List D} {p : α → Prop} : ∀ {rows : List (List D)}, (∀ row, row ∈ rows → ∃ a, row = f a ∧ p a) → ∃ l : List α, rows = l.map f ∧ ∀ a, a ∈ l → p a
  | [], _ => ⟨[], rfl, by simp⟩
  | r :: rows, h => by
    obtain ⟨a, ha, hp⟩ := h r (by simp)
    obtain ⟨l, hl, hq⟩ := rows_mapP (rows := rows) fun row hr => h row (by simp [hr])
    exact ⟨a :: l, by simp [ha, hl], fun b hb => by
      rcases List.mem_cons.1 hb with rfl | hb
      · exact hp
      · exact hq b hb⟩

theorem fit_ints {x : D} (h : FitA (.sl (.int .i64)) x) : ∃ l : List Int, x = .sl (l.map fun n => [.int .i64 n]) ∧ l.length ≤ maxLen ∧ ∀ n, n ∈ l → -9223372036854775808 ≤ n ∧ n ≤ 9223372036854775807 := by
  obtain ⟨rows, h1, h2, h3⟩ := fits_sl h
  simp at h1
  subst h1
  obtain ⟨l, rfl, hl⟩ := rows_mapP (f := fun n => [.int .i64 n]) (p := fun n : Int => -9223372036854775808 ≤ n ∧ n ≤ 9223372036854775807) fun row hr => by
    obtain ⟨n, e, hw⟩ := fits_int (h3 row hr)
    exact ⟨n, e, wf_i64 hw⟩
  exact ⟨l, rfl, by simpa using h2, hl⟩

/-- Two numbers in a struct, three. -/
abbrev ty2 : Ty := .st (.pair (.int .i64) (.pair (.int .i64) .unit))
abbrev ty3 : Ty := .st (.pair (.int .i64) (.pair (.int .i64) (.pair (.int .i64) .unit)))
theorem fits_2 {xs : List D} (h : Fits ty2 xs) : ∃ a b : Int, xs = [.int .i64 a, .int .i64 b] ∧ (-9223372036854775808 ≤ a ∧ a ≤ 9223372036854775807) ∧ -9223372036854775808 ≤ b ∧ b ≤ 9223372036854775807 := by
  obtain ⟨ys, zs, rfl, h1, h2⟩ := fits_pair (fits_st h)
  obtain ⟨a, rfl, ha⟩ := fits_int h1
  obtain ⟨us, vs, rfl, h3, h4⟩ := fits_pair h2
  obtain ⟨b, rfl, hb⟩ := fits_int h3
  obtain rfl := fits_unit h4
  exact ⟨a, b, rfl, wf_i64 ha, wf_i64 hb⟩
theorem fits_3 {xs : List D} (h : Fits ty3 xs) : ∃ a b c : Int, xs = [.int .i64 a, .int .i64 b, .int .i64 c] := by
  obtain ⟨ys, zs, rfl, h1, h2⟩ := fits_pair (fits_st h)
  obtain ⟨a, rfl, ha⟩ := fits_int h1
  obtain ⟨us, vs, rfl, h3, h4⟩ := fits_pair h2
  obtain ⟨b, rfl, hb⟩ := fits_int h3
  obtain ⟨us, vs, rfl, h5, h6⟩ := fits_pair h4
  obtain ⟨c, rfl, hc⟩ := fits_int h5
  obtain rfl := fits_unit h6
  exact ⟨a, b, c, rfl⟩
theorem fit_2 {x : D} (h : FitA ty2 x) : ∃ a b : Int, x = .agg [.int .i64 a, .int .i64 b] ∧ (-9223372036854775808 ≤ a ∧ a ≤ 9223372036854775807) ∧ -9223372036854775808 ≤ b ∧ b ≤ 9223372036854775807 := by
  obtain ⟨xs, rfl, h⟩ := h
  obtain ⟨a, b, rfl, h1, h2⟩ := fits_2 h
  exact ⟨a, b, rfl, h1, h2⟩
theorem fit_3s {x : D} (h : FitA (.sl ty3) x) : ∃ l : List (Int × Int × Int), x = .sl (l.map fun p => [.int .i64 p.1, .int .i64 p.2.1, .int .i64 p.2.2]) ∧ l.length ≤ maxLen := by
  obtain ⟨rows, h1, h2, h3⟩ := fits_sl h
  simp at h1
  subst h1
  obtain ⟨l, rfl⟩ := rows_map (f := fun p : Int × Int × Int => [.int .i64 p.1, .int .i64 p.2.1, .int .i64 p.2.2]) fun row hr => by
    obtain ⟨a, b, c, e⟩ := fits_3 (h3 row hr)
    exact ⟨(a, b, c), e⟩
  exact ⟨l, rfl, by simpa using h2⟩

end Go.Aw
