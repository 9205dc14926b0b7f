/-
  ReleaseOrderly answers true for every numbers, and leaves its input as it was. No condition.
-/
import Derived.Test.YtmmnjelmahcbaaaGreatRows
import Derived.Test.YtmmnjelmahcbaaaGreatChecked
import Derived.Test.YtmmnjelmahcbaaaGreatPkD
import Derived.Test.YtmmnjelmahcbaaaGreatPxZ9
import Derived.Test.YtmmnjelmahcbaaaGreatPxZ5
namespace Go.Proofs.YtmmnjelmahcbaaaGreat
set_option linter.unusedSimpArgs false
set_option linter.unusedVariables false
open Go.ChangeShapes Go.WideShapes Go.ChangeAt Go.RowKit Go.Aw

theorem orderly_ownK : ownKnob Tryz.prog.godebug = none := by kernel_rfl
theorem orderly_laid : laidOutB Tryz.prog = true := by kernel_rfl
theorem orderly_bool : Tryz.prog.underlying 4 = some .bool := by kernel_rfl

theorem orderly_fits (xs : List D) (h : FitAs [.sl ty2, .sl .bool, .int .i64] xs) : PD Tryz.prog 5 xs (.d (.bool true)) := by
  obtain ⟨x0, r, rfl, h0, h⟩ := fitAs_cons h
  obtain ⟨x1, r, rfl, h1, h⟩ := fitAs_cons h
  obtain ⟨x2, r, rfl, h2, h⟩ := fitAs_cons h
  obtain rfl := fitAs_nil h
  obtain ⟨v0, rfl, b0⟩ := fit_2s h0
  obtain ⟨v1, rfl, b1⟩ := fit_bools h1
  obtain ⟨v2, rfl, b2⟩ := fit_int h2
  exact q5 v0 v1 v2 b1

set_option maxRecDepth 100000 in
theorem orderly_lifted (os : Os) (started : os.Started) (H : Type) (enc : TypeId × Value → H) :
    ReturnsInHanded {} Tryz.checked os 5 .any (Rows.releaseOrderlySpec.pre6 enc Tryz.prog Tryz.f5 Rows.releaseOrderlyRow.domain false) (Rows.releaseOrderlySpec.post enc Tryz.prog Tryz.f5 false true false false) := by
  refine returnsInHanded_of_change (C := Tryz.checked) orderly_ownK started (by kernel_rfl) Tryz.func5
    (ChangeSpec.witness6 (enc := enc) (C := Tryz.checked) false ⟨#[], #[.slice none 0 0, .slice none 0 0, .int .i64 0], []⟩ 8 (by kernel_rfl) (by kernel_rfl) (by kernel_rfl) (by kernel_rfl)) ?_
  intro W base args ds gs before hval hW hcnd _
  exact row_true (tys := [.sl ty2, .sl .bool, .int .i64]) (bt := 4) orderly_laid (by kernel_rfl) (by kernel_rfl) (by kernel_rfl) orderly_bool rfl (fun ds hds => by
    match ds, hds with | [_, _, _], _ => rfl) orderly_fits hval hW

theorem orderly_holds : Rows.ReleaseOrderlySaid :=
  OpenClaim.holds_of_wide 5 Tryz.f5 rfl rfl rfl rfl rfl rfl rfl ⟨rfl, rfl, rfl, rfl, rfl⟩ rfl rfl rfl rfl rfl (by kernel_rfl) Tryz.func5 (by kernel_rfl)
    (of_decide_eq_true (by kernel_rfl)) (by unfold Func.isWrapper; first | (rw [if_pos (by decide +kernel)]; kernel_rfl) | (rw [if_neg (by decide +kernel)]; exact ⟨rfl, rfl⟩))
    (fun os started H enc _ => orderly_lifted os started H enc)

end Go.Proofs.YtmmnjelmahcbaaaGreat
