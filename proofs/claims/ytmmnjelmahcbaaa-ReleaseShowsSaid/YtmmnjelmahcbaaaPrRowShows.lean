/-
  ReleaseShows answers true for every numbers, and leaves its input as it was. No condition.
-/
import Derived.Test.YtmmnjelmahcbaaaRows
import Derived.Test.YtmmnjelmahcbaaaChecked
import Derived.Test.YtmmnjelmahcbaaaPkD
import Derived.Test.YtmmnjelmahcbaaaPxB7
namespace Go.Proofs.Ytmmnjelmahcbaaa
set_option linter.unusedSimpArgs false
set_option linter.unusedVariables false
open Go.ChangeShapes Go.WideShapes Go.ChangeAt Go.RowKit Go.Aw

theorem shows_ownK : ownKnob Try.prog.godebug = none := by kernel_rfl
theorem shows_laid : laidOutB Try.prog = true := by kernel_rfl
theorem shows_bool : Try.prog.underlying 4 = some .bool := by kernel_rfl

theorem shows_fits (xs : List D) (h : FitAs [.int .i64, .int .i64, ty2, ty2] xs) : PD Try.prog 7 xs (.d (.bool true)) := by
  obtain ⟨x0, r, rfl, h0, h⟩ := fitAs_cons h
  obtain ⟨x1, r, rfl, h1, h⟩ := fitAs_cons h
  obtain ⟨x2, r, rfl, h2, h⟩ := fitAs_cons h
  obtain ⟨x3, r, rfl, h3, h⟩ := fitAs_cons h
  obtain rfl := fitAs_nil h
  obtain ⟨v0, rfl, b0⟩ := fit_int h0
  obtain ⟨v1, rfl, b1⟩ := fit_int h1
  obtain ⟨v2, w2, rfl, b2⟩ := fit_2 h2
  obtain ⟨v3, w3, rfl, b3⟩ := fit_2 h3
  exact p7 v0 v1 v2 w2 v3 w3 (by omega)

set_option maxRecDepth 100000 in
theorem shows_lifted (os : Os) (started : os.Started) (H : Type) (enc : TypeId × Value → H) :
    ReturnsInHanded {} Try.checked os 7 .any (Rows.releaseShowsSpec.pre6 enc Try.prog Try.f7 Rows.releaseShowsRow.domain false) (Rows.releaseShowsSpec.post enc Try.prog Try.f7 false true false false) := by
  refine returnsInHanded_of_change (C := Try.checked) shows_ownK started (by kernel_rfl) Try.func7
    (ChangeSpec.witness6 (enc := enc) (C := Try.checked) false ⟨#[], #[.int .i64 0, .int .i64 0, .agg #[.int .i64 0, .int .i64 0], .agg #[.int .i64 0, .int .i64 0]], []⟩ 8 (by kernel_rfl) (by kernel_rfl) (by kernel_rfl) (by kernel_rfl)) ?_
  intro W base args ds gs before hval hW hcnd _
  exact row_true (tys := [.int .i64, .int .i64, ty2, ty2]) (bt := 4) shows_laid (by kernel_rfl) (by kernel_rfl) (by kernel_rfl) shows_bool rfl (fun ds hds => by
    match ds, hds with | [_, _, _, _], _ => rfl) shows_fits hval hW

theorem shows_holds : Rows.ReleaseShowsSaid :=
  OpenClaim.holds_of_wide 7 Try.f7 rfl rfl rfl rfl rfl rfl rfl ⟨rfl, rfl, rfl, rfl, rfl⟩ rfl rfl rfl rfl rfl (by kernel_rfl) Try.func7 (by kernel_rfl)
    (of_decide_eq_true (by kernel_rfl)) (by unfold Func.isWrapper; first | (rw [if_pos (by decide +kernel)]; kernel_rfl) | (rw [if_neg (by decide +kernel)]; exact ⟨rfl, rfl⟩))
    (fun os started H enc _ => shows_lifted os started H enc)

end Go.Proofs.Ytmmnjelmahcbaaa
