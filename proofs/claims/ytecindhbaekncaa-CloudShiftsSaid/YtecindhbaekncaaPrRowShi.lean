/-
  CloudShifts answers true for every list of numbers, every shift, gap and slack, and leaves its input as it was. No condition.
-/
import Derived.Test.YtecindhbaekncaaRows
import Derived.Test.YtecindhbaekncaaChecked
import Derived.Test.YtecindhbaekncaaPkD
import Derived.Test.YtecindhbaekncaaPxH14
namespace Go.Proofs.Ytecindhbaekncaa
set_option linter.unusedSimpArgs false
set_option linter.unusedVariables false
open Go.ChangeShapes Go.WideShapes Go.ChangeAt Go.RowKit Go.Aw

theorem shi_ownK : ownKnob Try.prog.godebug = none := by kernel_rfl
theorem shi_laid : laidOutB Try.prog = true := by kernel_rfl
theorem shi_bool : Try.prog.underlying 4 = some .bool := by kernel_rfl

theorem shi_fits (xs : List D) (h : FitAs [.sl (.int .i64), ty2, .int .i64, .int .i64] xs) : PD Try.prog 13 xs (.d (.bool true)) := by
  obtain ⟨x0, r, rfl, h0, h⟩ := fitAs_cons h
  obtain ⟨x1, r, rfl, h1, h⟩ := fitAs_cons h
  obtain ⟨x2, r, rfl, h2, h⟩ := fitAs_cons h
  obtain ⟨x3, r, rfl, h3, h⟩ := fitAs_cons h
  obtain rfl := fitAs_nil h
  obtain ⟨v0, rfl, l0, b0⟩ := fit_ints h0
  obtain ⟨v1, w1, rfl, b1⟩ := fit_2 h1
  obtain ⟨v2, rfl, b2⟩ := fit_int h2
  obtain ⟨v3, rfl, b3⟩ := fit_int h3
  exact p13 v0 v1 w1 v2 v3

set_option maxRecDepth 100000 in
theorem shi_lifted (os : Os) (started : os.Started) (H : Type) (enc : TypeId × Value → H) :
    ReturnsInHanded {} Try.checked os 13 .any (Rows.cloudShiftsSpec.pre6 enc Try.prog Try.f13 Rows.cloudShiftsRow.domain false) (Rows.cloudShiftsSpec.post enc Try.prog Try.f13 false true false false) := by
  refine returnsInHanded_of_change (C := Try.checked) shi_ownK started (by kernel_rfl) Try.func13
    (ChangeSpec.witness6 (enc := enc) (C := Try.checked) false ⟨#[], #[.slice none 0 0, .agg #[.int .i64 0, .int .i64 0], .int .i64 0, .int .i64 0], []⟩ 8 (by kernel_rfl) (by kernel_rfl) (by kernel_rfl) (by kernel_rfl)) ?_
  intro W base args ds gs before hval hW hcnd _
  exact row_true (tys := [.sl (.int .i64), ty2, .int .i64, .int .i64]) (bt := 4) shi_laid (by kernel_rfl) (by kernel_rfl) (by kernel_rfl) shi_bool rfl (fun ds hds => by
    match ds, hds with | [_, _, _, _], _ => rfl) shi_fits hval hW

theorem shi_holds : Rows.CloudShiftsSaid :=
  OpenClaim.holds_of_wide 13 Try.f13 rfl rfl rfl rfl rfl rfl rfl ⟨rfl, rfl, rfl, rfl, rfl⟩ rfl rfl rfl rfl rfl (by kernel_rfl) Try.func13 (by kernel_rfl)
    (of_decide_eq_true (by kernel_rfl)) (by unfold Func.isWrapper; first | (rw [if_pos (by decide +kernel)]; kernel_rfl) | (rw [if_neg (by decide +kernel)]; exact ⟨rfl, rfl⟩))
    (fun os started H enc _ => shi_lifted os started H enc)

end Go.Proofs.Ytecindhbaekncaa
