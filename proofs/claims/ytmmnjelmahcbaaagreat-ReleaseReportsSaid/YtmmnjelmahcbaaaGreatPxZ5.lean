/-
  Releases as they are read. No condition.
-/
import Derived.Test.YtmmnjelmahcbaaaGreatPxN36
import Derived.Test.YtmmnjelmahcbaaaGreatPkD
namespace Go.Aw
set_option linter.unusedSimpArgs false
set_option linter.unusedVariables false
open Go.RowKit Go.Proofs Go.Nt Go.Rl

abbrev tyI : Ty := .int .i64
abbrev tyStg : Ty := .st (.pair tyI (.pair tyI (.pair ty2 (.pair ty2 (.pair ty2 .unit)))))
abbrev tyRel : Ty := .st (.pair tyI (.pair tyI (.pair tyI (.pair (.sl tyStg) (.pair tyI (.pair tyI (.pair tyI (.pair tyI (.pair tyI .unit)))))))))
theorem fits_stg {xs : List D} (h : Fits tyStg xs) : ∃ s : Stg, xs = encG s := by
  obtain ⟨ys1, zs1, rfl, h1, g1⟩ := fits_pair (fits_st h)
  obtain ⟨a, rfl, _⟩ := fits_int h1
  obtain ⟨ys2, zs2, rfl, h1, g2⟩ := fits_pair g1
  obtain ⟨b, rfl, _⟩ := fits_int h1
  obtain ⟨ys3, zs3, rfl, h1, g3⟩ := fits_pair g2
  obtain ⟨c, d, rfl, _⟩ := fits_2 h1
  obtain ⟨ys4, zs4, rfl, h1, g4⟩ := fits_pair g3
  obtain ⟨e, f, rfl, _⟩ := fits_2 h1
  obtain ⟨ys5, zs5, rfl, h1, g5⟩ := fits_pair g4
  obtain ⟨g, i, rfl, _⟩ := fits_2 h1
  obtain rfl := fits_unit g5
  exact ⟨⟨a, b, c, d, e, f, g, i⟩, rfl⟩
theorem fit_rel {x : D} (h : FitA tyRel x) : ∃ s : Sta, x = .agg (encS s) ∧ s.ps.length ≤ maxLen ∧ -9223372036854775808 ≤ s.ph ∧ s.ph ≤ 9223372036854775807 := by
  obtain ⟨xs, rfl, h⟩ := h
  obtain ⟨ys6, zs6, rfl, h1, g6⟩ := fits_pair (fits_st h)
  obtain ⟨a, rfl, _⟩ := fits_int h1
  obtain ⟨ys7, zs7, rfl, h1, g7⟩ := fits_pair g6
  obtain ⟨b, rfl, _⟩ := fits_int h1
  obtain ⟨ys8, zs8, rfl, h1, g8⟩ := fits_pair g7
  obtain ⟨c, rfl, _⟩ := fits_int h1
  obtain ⟨ys9, zs9, rfl, h1, g9⟩ := fits_pair g8
  obtain ⟨rows, rfl, hl, hr⟩ := fits_sl h1
  obtain ⟨l, rfl⟩ := rows_map (f := encG) fun row hr2 => fits_stg (hr row hr2)
  obtain ⟨ys10, zs10, rfl, h1, g10⟩ := fits_pair g9
  obtain ⟨d, rfl, hd⟩ := fits_int h1
  obtain ⟨ys11, zs11, rfl, h1, g11⟩ := fits_pair g10
  obtain ⟨e, rfl, _⟩ := fits_int h1
  obtain ⟨ys12, zs12, rfl, h1, g12⟩ := fits_pair g11
  obtain ⟨f, rfl, _⟩ := fits_int h1
  obtain ⟨ys13, zs13, rfl, h1, g13⟩ := fits_pair g12
  obtain ⟨g, rfl, _⟩ := fits_int h1
  obtain ⟨ys14, zs14, rfl, h1, g14⟩ := fits_pair g13
  obtain ⟨i, rfl, _⟩ := fits_int h1
  obtain rfl := fits_unit g14
  exact ⟨⟨a, b, c, l, d, e, f, g, i⟩, rfl, by simpa using hl, wf_i64 hd⟩
end Go.Aw
