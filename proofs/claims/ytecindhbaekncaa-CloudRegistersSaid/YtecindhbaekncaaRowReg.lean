/-
  CloudRegisters answers true for every two clouds, every shift, window and slack, and leaves its input as it was. No condition.
-/
import Derived.Test.YtecindhbaekncaaRows
import Derived.Test.YtecindhbaekncaaChecked
import Derived.Test.YtecindhbaekncaaAwRx
import Derived.Test.YtecindhbaekncaaC17
namespace Go.Proofs.Ytecindhbaekncaa
set_option linter.unusedSimpArgs false
set_option linter.unusedVariables false
open Go.ChangeShapes Go.WideShapes Go.ChangeAt Go.RowKit Go.Aw

theorem reg_ownK : ownKnob Try.prog.godebug = none := by kernel_rfl
theorem reg_laid : laidOutB Try.prog = true := by kernel_rfl
theorem reg_bool : Try.prog.underlying 4 = some .bool := by kernel_rfl

theorem reg_fits (xs : List D) (h : FitAs [.sl ty3, .sl ty3, ty2, .int .i64, .int .i64] xs) : PD Try.prog 5 xs (.d (.bool true)) := by
  obtain ⟨x0, r, rfl, h0, h⟩ := fitAs_cons h
  obtain ⟨x1, r, rfl, h1, h⟩ := fitAs_cons h
  obtain ⟨x2, r, rfl, h2, h⟩ := fitAs_cons h
  obtain ⟨x3, r, rfl, h3, h⟩ := fitAs_cons h
  obtain ⟨x4, r, rfl, h4, h⟩ := fitAs_cons h
  obtain rfl := fitAs_nil h
  obtain ⟨v0, rfl, l0⟩ := fit_3s h0
  obtain ⟨v1, rfl, l1⟩ := fit_3s h1
  obtain ⟨v2, w2, rfl, b2⟩ := fit_2 h2
  obtain ⟨v3, rfl, b3⟩ := fit_int h3
  obtain ⟨v4, rfl, b4⟩ := fit_int h4
  exact p5 v0 v1 v2 w2 v3 v4

set_option maxRecDepth 100000 in
theorem reg_lifted (os : Os) (started : os.Started) (H : Type) (enc : TypeId × Value → H) :
    ReturnsInHanded {} Try.checked os 5 .any (Rows.cloudRegistersSpec.pre6 enc Try.prog Try.f5 Rows.cloudRegistersRow.domain false) (Rows.cloudRegistersSpec.post enc Try.prog Try.f5 false true false false) := by
  refine returnsInHanded_of_change (C := Try.checked) reg_ownK started (by kernel_rfl) Try.func5
    (ChangeSpec.witness6 (enc := enc) (C := Try.checked) false ⟨#[], #[.slice none 0 0, .slice none 0 0, .agg #[.int .i64 0, .int .i64 0], .int .i64 0, .int .i64 0], []⟩ 8 (by kernel_rfl) (by kernel_rfl) (by kernel_rfl) (by kernel_rfl)) ?_
  intro W base args ds gs before hval hW hcnd _
  exact row_true (tys := [.sl ty3, .sl ty3, ty2, .int .i64, .int .i64]) (bt := 4) reg_laid (by kernel_rfl) (by kernel_rfl) (by kernel_rfl) reg_bool rfl (fun ds hds => by
    match ds, hds with | [_, _, _, _, _], _ => rfl) reg_fits hval hW

theorem reg_holds : Rows.CloudRegistersSaid :=
  OpenClaim.holds_of_wide 5 Try.f5 rfl rfl rfl rfl rfl rfl rfl ⟨rfl, rfl, rfl, rfl, rfl⟩ rfl rfl rfl rfl rfl (by kernel_rfl) Try.func5 (by kernel_rfl)
    (of_decide_eq_true (by kernel_rfl)) (by unfold Func.isWrapper; first | (rw [if_pos (by decide +kernel)]; kernel_rfl) | (rw [if_neg (by decide +kernel)]; exact ⟨rfl, rfl⟩))
    (fun os started H enc _ => reg_lifted os started H enc)

end Go.Proofs.Ytecindhbaekncaa
