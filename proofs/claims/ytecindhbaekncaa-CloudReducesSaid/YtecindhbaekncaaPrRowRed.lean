/-
  CloudReduces answers true for every list of points and every size, and leaves its input as it was. No condition.
-/
import Derived.Test.YtecindhbaekncaaRows
import Derived.Test.YtecindhbaekncaaChecked
import Derived.Test.YtecindhbaekncaaPkD
import Derived.Test.YtecindhbaekncaaPxI15
namespace Go.Proofs.Ytecindhbaekncaa
set_option linter.unusedSimpArgs false
set_option linter.unusedVariables false
open Go.ChangeShapes Go.WideShapes Go.ChangeAt Go.RowKit Go.Aw

theorem red_ownK : ownKnob Try.prog.godebug = none := by kernel_rfl
theorem red_laid : laidOutB Try.prog = true := by kernel_rfl
theorem red_bool : Try.prog.underlying 4 = some .bool := by kernel_rfl

theorem red_fits (xs : List D) (h : FitAs [.sl ty3, .int .i64] xs) : PD Try.prog 9 xs (.d (.bool true)) := by
  obtain ⟨x0, r, rfl, h0, h⟩ := fitAs_cons h
  obtain ⟨x1, r, rfl, h1, h⟩ := fitAs_cons h
  obtain rfl := fitAs_nil h
  obtain ⟨v0, rfl, l0⟩ := fit_3s h0
  obtain ⟨v1, rfl, b1⟩ := fit_int h1
  exact p9 v0 v1

set_option maxRecDepth 100000 in
theorem red_lifted (os : Os) (started : os.Started) (H : Type) (enc : TypeId × Value → H) :
    ReturnsInHanded {} Try.checked os 9 .any (Rows.cloudReducesSpec.pre6 enc Try.prog Try.f9 Rows.cloudReducesRow.domain false) (Rows.cloudReducesSpec.post enc Try.prog Try.f9 false true false false) := by
  refine returnsInHanded_of_change (C := Try.checked) red_ownK started (by kernel_rfl) Try.func9
    (ChangeSpec.witness6 (enc := enc) (C := Try.checked) false ⟨#[], #[.slice none 0 0, .int .i64 0], []⟩ 8 (by kernel_rfl) (by kernel_rfl) (by kernel_rfl) (by kernel_rfl)) ?_
  intro W base args ds gs before hval hW hcnd _
  exact row_true (tys := [.sl ty3, .int .i64]) (bt := 4) red_laid (by kernel_rfl) (by kernel_rfl) (by kernel_rfl) red_bool rfl (fun ds hds => by
    match ds, hds with | [_, _], _ => rfl) red_fits hval hW

theorem red_holds : Rows.CloudReducesSaid :=
  OpenClaim.holds_of_wide 9 Try.f9 rfl rfl rfl rfl rfl rfl rfl ⟨rfl, rfl, rfl, rfl, rfl⟩ rfl rfl rfl rfl rfl (by kernel_rfl) Try.func9 (by kernel_rfl)
    (of_decide_eq_true (by kernel_rfl)) (by unfold Func.isWrapper; first | (rw [if_pos (by decide +kernel)]; kernel_rfl) | (rw [if_neg (by decide +kernel)]; exact ⟨rfl, rfl⟩))
    (fun os started H enc _ => red_lifted os started H enc)

end Go.Proofs.Ytecindhbaekncaa
