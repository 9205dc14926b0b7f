/-
  CloudFinds answers true for every list of points, every area, spot, reach and number, and leaves its input as it was. No condition.
-/
import Derived.Test.YtecindhbaekncaaRows
import Derived.Test.YtecindhbaekncaaChecked
import Derived.Test.YtecindhbaekncaaPkD
import Derived.Test.YtecindhbaekncaaPxF12
namespace Go.Proofs.Ytecindhbaekncaa
set_option linter.unusedSimpArgs false
set_option linter.unusedVariables false
open Go.ChangeShapes Go.WideShapes Go.ChangeAt Go.RowKit Go.Aw

theorem fin_ownK : ownKnob Try.prog.godebug = none := by kernel_rfl
theorem fin_laid : laidOutB Try.prog = true := by kernel_rfl
theorem fin_bool : Try.prog.underlying 4 = some .bool := by kernel_rfl

theorem fin_fits (xs : List D) (h : FitAs [.sl ty3, ty4, ty2, .int .i64, .int .i64] xs) : PD Try.prog 7 xs (.d (.bool true)) := by
  obtain ⟨x0, r, rfl, h0, h⟩ := fitAs_cons h
  obtain ⟨x1, r, rfl, h1, h⟩ := fitAs_cons h
  obtain ⟨x2, r, rfl, h2, h⟩ := fitAs_cons h
  obtain ⟨x3, r, rfl, h3, h⟩ := fitAs_cons h
  obtain ⟨x4, r, rfl, h4, h⟩ := fitAs_cons h
  obtain rfl := fitAs_nil h
  obtain ⟨v0, rfl, l0⟩ := fit_3s h0
  obtain ⟨v1, w1, y1, z1, rfl⟩ := fit_4 h1
  obtain ⟨v2, w2, rfl, b2⟩ := fit_2 h2
  obtain ⟨v3, rfl, b3⟩ := fit_int h3
  obtain ⟨v4, rfl, b4⟩ := fit_int h4
  exact p7v v0 v1 w1 y1 z1 v2 w2 v3 v4

set_option maxRecDepth 100000 in
theorem fin_lifted (os : Os) (started : os.Started) (H : Type) (enc : TypeId × Value → H) :
    ReturnsInHanded {} Try.checked os 7 .any (Rows.cloudFindsSpec.pre6 enc Try.prog Try.f7 Rows.cloudFindsRow.domain false) (Rows.cloudFindsSpec.post enc Try.prog Try.f7 false true false false) := by
  refine returnsInHanded_of_change (C := Try.checked) fin_ownK started (by kernel_rfl) Try.func7
    (ChangeSpec.witness6 (enc := enc) (C := Try.checked) false ⟨#[], #[.slice none 0 0, .agg #[.int .i64 0, .int .i64 0, .int .i64 0, .int .i64 0], .agg #[.int .i64 0, .int .i64 0], .int .i64 0, .int .i64 0], []⟩ 8 (by kernel_rfl) (by kernel_rfl) (by kernel_rfl) (by kernel_rfl)) ?_
  intro W base args ds gs before hval hW hcnd _
  exact row_true (tys := [.sl ty3, ty4, ty2, .int .i64, .int .i64]) (bt := 4) fin_laid (by kernel_rfl) (by kernel_rfl) (by kernel_rfl) fin_bool rfl (fun ds hds => by
    match ds, hds with | [_, _, _, _, _], _ => rfl) fin_fits hval hW

theorem fin_holds : Rows.CloudFindsSaid :=
  OpenClaim.holds_of_wide 7 Try.f7 rfl rfl rfl rfl rfl rfl rfl ⟨rfl, rfl, rfl, rfl, rfl⟩ rfl rfl rfl rfl rfl (by kernel_rfl) Try.func7 (by kernel_rfl)
    (of_decide_eq_true (by kernel_rfl)) (by unfold Func.isWrapper; first | (rw [if_pos (by decide +kernel)]; kernel_rfl) | (rw [if_neg (by decide +kernel)]; exact ⟨rfl, rfl⟩))
    (fun os started H enc _ => fin_lifted os started H enc)

end Go.Proofs.Ytecindhbaekncaa
