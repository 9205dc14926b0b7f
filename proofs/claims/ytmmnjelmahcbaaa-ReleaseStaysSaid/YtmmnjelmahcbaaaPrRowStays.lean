/-
  ReleaseStays answers true for every numbers, and leaves its input as it was. No condition.
-/
import Derived.Test.YtmmnjelmahcbaaaRows
import Derived.Test.YtmmnjelmahcbaaaChecked
import Derived.Test.YtmmnjelmahcbaaaPkD
import Derived.Test.YtmmnjelmahcbaaaPxN39
namespace Go.Proofs.Ytmmnjelmahcbaaa
set_option linter.unusedSimpArgs false
set_option linter.unusedVariables false
open Go.ChangeShapes Go.WideShapes Go.ChangeAt Go.RowKit Go.Aw

theorem stays_ownK : ownKnob Try.prog.godebug = none := by kernel_rfl
theorem stays_laid : laidOutB Try.prog = true := by kernel_rfl
theorem stays_bool : Try.prog.underlying 4 = some .bool := by kernel_rfl

theorem stays_fits (xs : List D) (h : FitAs [.int .i64, .sl ty2, .sl .bool] xs) : PD Try.prog 14 xs (.d (.bool true)) := by
  obtain ⟨x0, r, rfl, h0, h⟩ := fitAs_cons h
  obtain ⟨x1, r, rfl, h1, h⟩ := fitAs_cons h
  obtain ⟨x2, r, rfl, h2, h⟩ := fitAs_cons h
  obtain rfl := fitAs_nil h
  obtain ⟨v0, rfl, b0⟩ := fit_int h0
  obtain ⟨v1, rfl, l1⟩ := fit_2s h1
  obtain ⟨v2, rfl, l2⟩ := fit_bools h2
  exact p14 v0 v1 v2 l2

set_option maxRecDepth 100000 in
theorem stays_lifted (os : Os) (started : os.Started) (H : Type) (enc : TypeId × Value → H) :
    ReturnsInHanded {} Try.checked os 14 .any (Rows.releaseStaysSpec.pre6 enc Try.prog Try.f14 Rows.releaseStaysRow.domain false) (Rows.releaseStaysSpec.post enc Try.prog Try.f14 false true false false) := by
  refine returnsInHanded_of_change (C := Try.checked) stays_ownK started (by kernel_rfl) Try.func14
    (ChangeSpec.witness6 (enc := enc) (C := Try.checked) false ⟨#[], #[.int .i64 0, .slice none 0 0, .slice none 0 0], []⟩ 8 (by kernel_rfl) (by kernel_rfl) (by kernel_rfl) (by kernel_rfl)) ?_
  intro W base args ds gs before hval hW hcnd _
  exact row_true (tys := [.int .i64, .sl ty2, .sl .bool]) (bt := 4) stays_laid (by kernel_rfl) (by kernel_rfl) (by kernel_rfl) stays_bool rfl (fun ds hds => by
    match ds, hds with | [_, _, _], _ => rfl) stays_fits hval hW

theorem stays_holds : Rows.ReleaseStaysSaid :=
  OpenClaim.holds_of_wide 14 Try.f14 rfl rfl rfl rfl rfl rfl rfl ⟨rfl, rfl, rfl, rfl, rfl⟩ rfl rfl rfl rfl rfl (by kernel_rfl) Try.func14 (by kernel_rfl)
    (of_decide_eq_true (by kernel_rfl)) (by unfold Func.isWrapper; first | (rw [if_pos (by decide +kernel)]; kernel_rfl) | (rw [if_neg (by decide +kernel)]; exact ⟨rfl, rfl⟩))
    (fun os started H enc _ => stays_lifted os started H enc)

end Go.Proofs.Ytmmnjelmahcbaaa
