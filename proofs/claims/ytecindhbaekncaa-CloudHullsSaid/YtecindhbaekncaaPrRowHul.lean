/-
  CloudHulls answers true for every list of points, every list of corners and every spot, and leaves its input as it was. No condition.
-/
import Derived.Test.YtecindhbaekncaaRows
import Derived.Test.YtecindhbaekncaaChecked
import Derived.Test.YtecindhbaekncaaPkD
import Derived.Test.YtecindhbaekncaaPxH10
namespace Go.Proofs.Ytecindhbaekncaa
set_option linter.unusedSimpArgs false
set_option linter.unusedVariables false
open Go.ChangeShapes Go.WideShapes Go.ChangeAt Go.RowKit Go.Aw

theorem hul_ownK : ownKnob Try.prog.godebug = none := by kernel_rfl
theorem hul_laid : laidOutB Try.prog = true := by kernel_rfl
theorem hul_bool : Try.prog.underlying 4 = some .bool := by kernel_rfl

theorem hul_fits (xs : List D) (h : FitAs [.sl ty3, .sl ty2, ty2] xs) : PD Try.prog 11 xs (.d (.bool true)) := by
  obtain ⟨x0, r, rfl, h0, h⟩ := fitAs_cons h
  obtain ⟨x1, r, rfl, h1, h⟩ := fitAs_cons h
  obtain ⟨x2, r, rfl, h2, h⟩ := fitAs_cons h
  obtain rfl := fitAs_nil h
  obtain ⟨v0, rfl, l0⟩ := fit_3s h0
  obtain ⟨v1, rfl, l1⟩ := fit_2s h1
  obtain ⟨v2, w2, rfl, b2⟩ := fit_2 h2
  exact p11v v0 v1 v2 w2

set_option maxRecDepth 100000 in
theorem hul_lifted (os : Os) (started : os.Started) (H : Type) (enc : TypeId × Value → H) :
    ReturnsInHanded {} Try.checked os 11 .any (Rows.cloudHullsSpec.pre6 enc Try.prog Try.f11 Rows.cloudHullsRow.domain false) (Rows.cloudHullsSpec.post enc Try.prog Try.f11 false true false false) := by
  refine returnsInHanded_of_change (C := Try.checked) hul_ownK started (by kernel_rfl) Try.func11
    (ChangeSpec.witness6 (enc := enc) (C := Try.checked) false ⟨#[], #[.slice none 0 0, .slice none 0 0, .agg #[.int .i64 0, .int .i64 0]], []⟩ 8 (by kernel_rfl) (by kernel_rfl) (by kernel_rfl) (by kernel_rfl)) ?_
  intro W base args ds gs before hval hW hcnd _
  exact row_true (tys := [.sl ty3, .sl ty2, ty2]) (bt := 4) hul_laid (by kernel_rfl) (by kernel_rfl) (by kernel_rfl) hul_bool rfl (fun ds hds => by
    match ds, hds with | [_, _, _], _ => rfl) hul_fits hval hW

theorem hul_holds : Rows.CloudHullsSaid :=
  OpenClaim.holds_of_wide 11 Try.f11 rfl rfl rfl rfl rfl rfl rfl ⟨rfl, rfl, rfl, rfl, rfl⟩ rfl rfl rfl rfl rfl (by kernel_rfl) Try.func11 (by kernel_rfl)
    (of_decide_eq_true (by kernel_rfl)) (by unfold Func.isWrapper; first | (rw [if_pos (by decide +kernel)]; kernel_rfl) | (rw [if_neg (by decide +kernel)]; exact ⟨rfl, rfl⟩))
    (fun os started H enc _ => hul_lifted os started H enc)

end Go.Proofs.Ytecindhbaekncaa
