/-
  ReleaseLearns answers true for every numbers, and leaves its input as it was. No condition.
-/
import Derived.Test.YtmmnjelmahcbaaaRows
import Derived.Test.YtmmnjelmahcbaaaChecked
import Derived.Test.YtmmnjelmahcbaaaPkD
import Derived.Test.YtmmnjelmahcbaaaPxN25
namespace Go.Proofs.Ytmmnjelmahcbaaa
set_option linter.unusedSimpArgs false
set_option linter.unusedVariables false
open Go.ChangeShapes Go.WideShapes Go.ChangeAt Go.RowKit Go.Aw

theorem learns_ownK : ownKnob Try.prog.godebug = none := by kernel_rfl
theorem learns_laid : laidOutB Try.prog = true := by kernel_rfl
theorem learns_bool : Try.prog.underlying 4 = some .bool := by kernel_rfl

theorem learns_fits (xs : List D) (h : FitAs [.sl (.int .i64), ty2, ty2] xs) : PD Try.prog 10 xs (.d (.bool true)) := by
  obtain ⟨x0, r, rfl, h0, h⟩ := fitAs_cons h
  obtain ⟨x1, r, rfl, h1, h⟩ := fitAs_cons h
  obtain ⟨x2, r, rfl, h2, h⟩ := fitAs_cons h
  obtain rfl := fitAs_nil h
  obtain ⟨v0, rfl, l0, b0⟩ := fit_ints h0
  obtain ⟨v1, w1, rfl, b1⟩ := fit_2 h1
  obtain ⟨v2, w2, rfl, b2⟩ := fit_2 h2
  exact p10 v0 v1 w1 v2 w2

set_option maxRecDepth 100000 in
theorem learns_lifted (os : Os) (started : os.Started) (H : Type) (enc : TypeId × Value → H) :
    ReturnsInHanded {} Try.checked os 10 .any (Rows.releaseLearnsSpec.pre6 enc Try.prog Try.f10 Rows.releaseLearnsRow.domain false) (Rows.releaseLearnsSpec.post enc Try.prog Try.f10 false true false false) := by
  refine returnsInHanded_of_change (C := Try.checked) learns_ownK started (by kernel_rfl) Try.func10
    (ChangeSpec.witness6 (enc := enc) (C := Try.checked) false ⟨#[], #[.slice none 0 0, .agg #[.int .i64 0, .int .i64 0], .agg #[.int .i64 0, .int .i64 0]], []⟩ 8 (by kernel_rfl) (by kernel_rfl) (by kernel_rfl) (by kernel_rfl)) ?_
  intro W base args ds gs before hval hW hcnd _
  exact row_true (tys := [.sl (.int .i64), ty2, ty2]) (bt := 4) learns_laid (by kernel_rfl) (by kernel_rfl) (by kernel_rfl) learns_bool rfl (fun ds hds => by
    match ds, hds with | [_, _, _], _ => rfl) learns_fits hval hW

theorem learns_holds : Rows.ReleaseLearnsSaid :=
  OpenClaim.holds_of_wide 10 Try.f10 rfl rfl rfl rfl rfl rfl rfl ⟨rfl, rfl, rfl, rfl, rfl⟩ rfl rfl rfl rfl rfl (by kernel_rfl) Try.func10 (by kernel_rfl)
    (of_decide_eq_true (by kernel_rfl)) (by unfold Func.isWrapper; first | (rw [if_pos (by decide +kernel)]; kernel_rfl) | (rw [if_neg (by decide +kernel)]; exact ⟨rfl, rfl⟩))
    (fun os started H enc _ => learns_lifted os started H enc)

end Go.Proofs.Ytmmnjelmahcbaaa
