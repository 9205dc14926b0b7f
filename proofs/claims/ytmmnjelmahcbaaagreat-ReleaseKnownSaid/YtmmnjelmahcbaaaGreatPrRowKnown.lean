/-
  ReleaseKnown answers true. No condition.
-/
import Derived.Test.YtmmnjelmahcbaaaGreatRows
import Derived.Test.YtmmnjelmahcbaaaGreatChecked
import Derived.Test.YtmmnjelmahcbaaaGreatPkD
import Derived.Test.YtmmnjelmahcbaaaGreatPxZ11
namespace Go.Proofs.YtmmnjelmahcbaaaGreat
set_option linter.unusedSimpArgs false
set_option linter.unusedVariables false
open Go.ChangeShapes Go.WideShapes Go.ChangeAt Go.RowKit Go.Aw

theorem known_ownK : ownKnob Tryz.prog.godebug = none := by kernel_rfl
theorem known_laid : laidOutB Tryz.prog = true := by kernel_rfl
theorem known_bool : Tryz.prog.underlying 4 = some .bool := by kernel_rfl

theorem known_fits (xs : List D) (h : FitAs [] xs) : PD Tryz.prog 6 xs (.d (.bool true)) := by
  obtain rfl := fitAs_nil h
  exact q6 

set_option maxRecDepth 100000 in
theorem known_lifted (os : Os) (started : os.Started) (H : Type) (enc : TypeId × Value → H) :
    ReturnsInHanded {} Tryz.checked os 6 .any (Rows.releaseKnownSpec.pre6 enc Tryz.prog Tryz.f6 Rows.releaseKnownRow.domain false) (Rows.releaseKnownSpec.post enc Tryz.prog Tryz.f6 false true false false) := by
  refine returnsInHanded_of_change (C := Tryz.checked) known_ownK started (by kernel_rfl) Tryz.func6
    (ChangeSpec.witness6 (enc := enc) (C := Tryz.checked) false ⟨#[], #[], []⟩ 8 (by kernel_rfl) (by kernel_rfl) (by kernel_rfl) (by kernel_rfl)) ?_
  intro W base args ds gs before hval hW hcnd _
  exact row_true (tys := []) (bt := 4) known_laid (by kernel_rfl) (by kernel_rfl) (by kernel_rfl) known_bool rfl (fun ds hds => by
    match ds, hds with | [], _ => rfl) known_fits hval hW

theorem known_holds : Rows.ReleaseKnownSaid :=
  OpenClaim.holds_of_wide 6 Tryz.f6 rfl rfl rfl rfl rfl rfl rfl ⟨rfl, rfl, rfl, rfl, rfl⟩ rfl rfl rfl rfl rfl (by kernel_rfl) Tryz.func6 (by kernel_rfl)
    (of_decide_eq_true (by kernel_rfl)) (by unfold Func.isWrapper; first | (rw [if_pos (by decide +kernel)]; kernel_rfl) | (rw [if_neg (by decide +kernel)]; exact ⟨rfl, rfl⟩))
    (fun os started H enc _ => known_lifted os started H enc)

end Go.Proofs.YtmmnjelmahcbaaaGreat
