/-
  ReleaseChecks answers true for every releases and numbers, and leaves its input as it was. No condition.
-/
import Derived.Test.YtmmnjelmahcbaaaGreatRows
import Derived.Test.YtmmnjelmahcbaaaGreatChecked
import Derived.Test.YtmmnjelmahcbaaaGreatPkD
import Derived.Test.YtmmnjelmahcbaaaGreatPxZ4
import Derived.Test.YtmmnjelmahcbaaaGreatPxZ5
namespace Go.Proofs.YtmmnjelmahcbaaaGreat
set_option linter.unusedSimpArgs false
set_option linter.unusedVariables false
open Go.ChangeShapes Go.WideShapes Go.ChangeAt Go.RowKit Go.Aw

theorem checks_ownK : ownKnob Tryz.prog.godebug = none := by kernel_rfl
theorem checks_laid : laidOutB Tryz.prog = true := by kernel_rfl
theorem checks_bool : Tryz.prog.underlying 4 = some .bool := by kernel_rfl

theorem checks_fits (xs : List D) (h : FitAs [tyRel, tyRel, .int .i64] xs) : PD Tryz.prog 3 xs (.d (.bool true)) := by
  obtain ⟨x0, r, rfl, h0, h⟩ := fitAs_cons h
  obtain ⟨x1, r, rfl, h1, h⟩ := fitAs_cons h
  obtain ⟨x2, r, rfl, h2, h⟩ := fitAs_cons h
  obtain rfl := fitAs_nil h
  obtain ⟨v0, rfl, b0⟩ := fit_rel h0
  obtain ⟨v1, rfl, b1⟩ := fit_rel h1
  obtain ⟨v2, rfl, b2⟩ := fit_int h2
  exact q3 v0 v1 v2 b0.2.1 b0.2.2

set_option maxRecDepth 100000 in
theorem checks_lifted (os : Os) (started : os.Started) (H : Type) (enc : TypeId × Value → H) :
    ReturnsInHanded {} Tryz.checked os 3 .any (Rows.releaseChecksSpec.pre6 enc Tryz.prog Tryz.f3 Rows.releaseChecksRow.domain false) (Rows.releaseChecksSpec.post enc Tryz.prog Tryz.f3 false true false false) := by
  refine returnsInHanded_of_change (C := Tryz.checked) checks_ownK started (by kernel_rfl) Tryz.func3
    (ChangeSpec.witness6 (enc := enc) (C := Tryz.checked) false ⟨#[], #[.agg #[.int .i64 0, .int .i64 0, .int .i64 0, .slice none 0 0, .int .i64 0, .int .i64 0, .int .i64 0, .int .i64 0, .int .i64 0], .agg #[.int .i64 0, .int .i64 0, .int .i64 0, .slice none 0 0, .int .i64 0, .int .i64 0, .int .i64 0, .int .i64 0, .int .i64 0], .int .i64 0], []⟩ 8 (by kernel_rfl) (by kernel_rfl) (by kernel_rfl) (by kernel_rfl)) ?_
  intro W base args ds gs before hval hW hcnd _
  exact row_true (tys := [tyRel, tyRel, .int .i64]) (bt := 4) checks_laid (by kernel_rfl) (by kernel_rfl) (by kernel_rfl) checks_bool rfl (fun ds hds => by
    match ds, hds with | [_, _, _], _ => rfl) checks_fits hval hW

theorem checks_holds : Rows.ReleaseChecksSaid :=
  OpenClaim.holds_of_wide 3 Tryz.f3 rfl rfl rfl rfl rfl rfl rfl ⟨rfl, rfl, rfl, rfl, rfl⟩ rfl rfl rfl rfl rfl (by kernel_rfl) Tryz.func3 (by kernel_rfl)
    (of_decide_eq_true (by kernel_rfl)) (by unfold Func.isWrapper; first | (rw [if_pos (by decide +kernel)]; kernel_rfl) | (rw [if_neg (by decide +kernel)]; exact ⟨rfl, rfl⟩))
    (fun os started H enc _ => checks_lifted os started H enc)

end Go.Proofs.YtmmnjelmahcbaaaGreat
