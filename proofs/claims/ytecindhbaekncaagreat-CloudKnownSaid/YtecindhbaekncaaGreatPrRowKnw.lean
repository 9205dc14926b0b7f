/-
  CloudKnown answers true. No condition.
-/
import Derived.Test.YtecindhbaekncaaGreatRows
import Derived.Test.YtecindhbaekncaaGreatChecked
import Derived.Test.YtecindhbaekncaaGreatPkD
import Derived.Test.YtecindhbaekncaaGreatPxK2
namespace Go.Proofs.YtecindhbaekncaaGreat
set_option linter.unusedSimpArgs false
set_option linter.unusedVariables false
open Go.ChangeShapes Go.WideShapes Go.ChangeAt Go.RowKit Go.Aw

theorem knw_ownK : ownKnob Tryz.prog.godebug = none := by kernel_rfl
theorem knw_laid : laidOutB Tryz.prog = true := by kernel_rfl
theorem knw_bool : Tryz.prog.underlying 4 = some .bool := by kernel_rfl

theorem knw_fits (xs : List D) (h : FitAs [] xs) : PD Tryz.prog 3 xs (.d (.bool true)) := by
  obtain rfl := fitAs_nil h
  exact q3


set_option maxRecDepth 100000 in
theorem knw_lifted (os : Os) (started : os.Started) (H : Type) (enc : TypeId × Value → H) :
    ReturnsInHanded {} Tryz.checked os 3 .any (Rows.cloudKnownSpec.pre6 enc Tryz.prog Tryz.f3 Rows.cloudKnownRow.domain false) (Rows.cloudKnownSpec.post enc Tryz.prog Tryz.f3 false true false false) := by
  refine returnsInHanded_of_change (C := Tryz.checked) knw_ownK started (by kernel_rfl) Tryz.func3
    (ChangeSpec.witness6 (enc := enc) (C := Tryz.checked) false ⟨#[], #[], []⟩ 8 (by kernel_rfl) (by kernel_rfl) (by kernel_rfl) (by kernel_rfl)) ?_
  intro W base args ds gs before hval hW hcnd _
  exact row_true (tys := []) (bt := 4) knw_laid (by kernel_rfl) (by kernel_rfl) (by kernel_rfl) knw_bool rfl (fun ds hds => by
    match ds, hds with | [], _ => rfl) knw_fits hval hW

theorem knw_holds : Rows.CloudKnownSaid :=
  OpenClaim.holds_of_wide 3 Tryz.f3 rfl rfl rfl rfl rfl rfl rfl ⟨rfl, rfl, rfl, rfl, rfl⟩ rfl rfl rfl rfl rfl (by kernel_rfl) Tryz.func3 (by kernel_rfl)
    (of_decide_eq_true (by kernel_rfl)) (by unfold Func.isWrapper; first | (rw [if_pos (by decide +kernel)]; kernel_rfl) | (rw [if_neg (by decide +kernel)]; exact ⟨rfl, rfl⟩))
    (fun os started H enc _ => knw_lifted os started H enc)

end Go.Proofs.YtecindhbaekncaaGreat
