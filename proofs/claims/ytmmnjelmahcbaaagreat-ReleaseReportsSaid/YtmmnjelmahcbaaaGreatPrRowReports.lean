/-
  ReleaseReports answers true for every release and numbers, and leaves its input as it was. No condition.
-/
import Derived.Test.YtmmnjelmahcbaaaGreatRows
import Derived.Test.YtmmnjelmahcbaaaGreatChecked
import Derived.Test.YtmmnjelmahcbaaaGreatPkD
import Derived.Test.YtmmnjelmahcbaaaGreatPxZ8
import Derived.Test.YtmmnjelmahcbaaaGreatPxZ5
namespace Go.Proofs.YtmmnjelmahcbaaaGreat
set_option linter.unusedSimpArgs false
set_option linter.unusedVariables false
open Go.ChangeShapes Go.WideShapes Go.ChangeAt Go.RowKit Go.Aw

theorem reports_ownK : ownKnob Tryz.prog.godebug = none := by kernel_rfl
theorem reports_laid : laidOutB Tryz.prog = true := by kernel_rfl
theorem reports_bool : Tryz.prog.underlying 4 = some .bool := by kernel_rfl

theorem reports_fits (xs : List D) (h : FitAs [tyRel, .sl (.int .i64), .sl .bool] xs) : PD Tryz.prog 4 xs (.d (.bool true)) := by
  obtain ⟨x0, r, rfl, h0, h⟩ := fitAs_cons h
  obtain ⟨x1, r, rfl, h1, h⟩ := fitAs_cons h
  obtain ⟨x2, r, rfl, h2, h⟩ := fitAs_cons h
  obtain rfl := fitAs_nil h
  obtain ⟨v0, rfl, b0⟩ := fit_rel h0
  obtain ⟨v1, rfl, b1⟩ := fit_ints h1
  obtain ⟨v2, rfl, b2⟩ := fit_bools h2
  exact q4 v0 v1 v2 b2 b0.2.1 b0.2.2

set_option maxRecDepth 100000 in
theorem reports_lifted (os : Os) (started : os.Started) (H : Type) (enc : TypeId × Value → H) :
    ReturnsInHanded {} Tryz.checked os 4 .any (Rows.releaseReportsSpec.pre6 enc Tryz.prog Tryz.f4 Rows.releaseReportsRow.domain false) (Rows.releaseReportsSpec.post enc Tryz.prog Tryz.f4 false true false false) := by
  refine returnsInHanded_of_change (C := Tryz.checked) reports_ownK started (by kernel_rfl) Tryz.func4
    (ChangeSpec.witness6 (enc := enc) (C := Tryz.checked) false ⟨#[], #[.agg #[.int .i64 0, .int .i64 0, .int .i64 0, .slice none 0 0, .int .i64 0, .int .i64 0, .int .i64 0, .int .i64 0, .int .i64 0], .slice none 0 0, .slice none 0 0], []⟩ 8 (by kernel_rfl) (by kernel_rfl) (by kernel_rfl) (by kernel_rfl)) ?_
  intro W base args ds gs before hval hW hcnd _
  exact row_true (tys := [tyRel, .sl (.int .i64), .sl .bool]) (bt := 4) reports_laid (by kernel_rfl) (by kernel_rfl) (by kernel_rfl) reports_bool rfl (fun ds hds => by
    match ds, hds with | [_, _, _], _ => rfl) reports_fits hval hW

theorem reports_holds : Rows.ReleaseReportsSaid :=
  OpenClaim.holds_of_wide 4 Tryz.f4 rfl rfl rfl rfl rfl rfl rfl ⟨rfl, rfl, rfl, rfl, rfl⟩ rfl rfl rfl rfl rfl (by kernel_rfl) Tryz.func4 (by kernel_rfl)
    (of_decide_eq_true (by kernel_rfl)) (by unfold Func.isWrapper; first | (rw [if_pos (by decide +kernel)]; kernel_rfl) | (rw [if_neg (by decide +kernel)]; exact ⟨rfl, rfl⟩))
    (fun os started H enc _ => reports_lifted os started H enc)

end Go.Proofs.YtmmnjelmahcbaaaGreat
