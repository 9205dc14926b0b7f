/-
  CloudCovers answers true for every list of numbers and every span, and leaves its input as it was. No condition.
-/
import Derived.Test.YtecindhbaekncaaRows
import Derived.Test.YtecindhbaekncaaChecked
import Derived.Test.YtecindhbaekncaaPkD
import Derived.Test.YtecindhbaekncaaPxH12
namespace Go.Proofs.Ytecindhbaekncaa
set_option linter.unusedSimpArgs false
set_option linter.unusedVariables false
open Go.ChangeShapes Go.WideShapes Go.ChangeAt Go.RowKit Go.Aw

theorem cov_ownK : ownKnob Try.prog.godebug = none := by kernel_rfl
theorem cov_laid : laidOutB Try.prog = true := by kernel_rfl
theorem cov_bool : Try.prog.underlying 4 = some .bool := by kernel_rfl

theorem cov_fits (xs : List D) (h : FitAs [.sl (.int .i64), .int .i64] xs) : PD Try.prog 12 xs (.d (.bool true)) := by
  obtain ⟨x0, r, rfl, h0, h⟩ := fitAs_cons h
  obtain ⟨x1, r, rfl, h1, h⟩ := fitAs_cons h
  obtain rfl := fitAs_nil h
  obtain ⟨v0, rfl, l0, b0⟩ := fit_ints h0
  obtain ⟨v1, rfl, b1⟩ := fit_int h1
  exact p12 v0 v1

set_option maxRecDepth 100000 in
theorem cov_lifted (os : Os) (started : os.Started) (H : Type) (enc : TypeId × Value → H) :
    ReturnsInHanded {} Try.checked os 12 .any (Rows.cloudCoversSpec.pre6 enc Try.prog Try.f12 Rows.cloudCoversRow.domain false) (Rows.cloudCoversSpec.post enc Try.prog Try.f12 false true false false) := by
  refine returnsInHanded_of_change (C := Try.checked) cov_ownK started (by kernel_rfl) Try.func12
    (ChangeSpec.witness6 (enc := enc) (C := Try.checked) false ⟨#[], #[.slice none 0 0, .int .i64 0], []⟩ 8 (by kernel_rfl) (by kernel_rfl) (by kernel_rfl) (by kernel_rfl)) ?_
  intro W base args ds gs before hval hW hcnd _
  exact row_true (tys := [.sl (.int .i64), .int .i64]) (bt := 4) cov_laid (by kernel_rfl) (by kernel_rfl) (by kernel_rfl) cov_bool rfl (fun ds hds => by
    match ds, hds with | [_, _], _ => rfl) cov_fits hval hW

theorem cov_holds : Rows.CloudCoversSaid :=
  OpenClaim.holds_of_wide 12 Try.f12 rfl rfl rfl rfl rfl rfl rfl ⟨rfl, rfl, rfl, rfl, rfl⟩ rfl rfl rfl rfl rfl (by kernel_rfl) Try.func12 (by kernel_rfl)
    (of_decide_eq_true (by kernel_rfl)) (by unfold Func.isWrapper; first | (rw [if_pos (by decide +kernel)]; kernel_rfl) | (rw [if_neg (by decide +kernel)]; exact ⟨rfl, rfl⟩))
    (fun os started H enc _ => cov_lifted os started H enc)

end Go.Proofs.Ytecindhbaekncaa
