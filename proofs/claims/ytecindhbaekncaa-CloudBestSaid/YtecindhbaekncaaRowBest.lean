/-
  CloudBest answers true for every two lists of numbers, every window and slack, and leaves its input as it was. No condition.
-/
import Derived.Test.YtecindhbaekncaaRows
import Derived.Test.YtecindhbaekncaaChecked
import Derived.Test.YtecindhbaekncaaAwRx
import Derived.Test.YtecindhbaekncaaC19
namespace Go.Proofs.Ytecindhbaekncaa
set_option linter.unusedSimpArgs false
set_option linter.unusedVariables false
open Go.ChangeShapes Go.WideShapes Go.ChangeAt Go.RowKit Go.Aw

theorem best_ownK : ownKnob Try.prog.godebug = none := by kernel_rfl
theorem best_laid : laidOutB Try.prog = true := by kernel_rfl
theorem best_bool : Try.prog.underlying 4 = some .bool := by kernel_rfl

theorem best_fits (xs : List D) (h : FitAs [.sl (.int .i64), .sl (.int .i64), .int .i64, .int .i64] xs) : PD Try.prog 6 xs (.d (.bool true)) := by
  obtain ⟨x0, r, rfl, h0, h⟩ := fitAs_cons h
  obtain ⟨x1, r, rfl, h1, h⟩ := fitAs_cons h
  obtain ⟨x2, r, rfl, h2, h⟩ := fitAs_cons h
  obtain ⟨x3, r, rfl, h3, h⟩ := fitAs_cons h
  obtain rfl := fitAs_nil h
  obtain ⟨v0, rfl, l0, b0⟩ := fit_ints h0
  obtain ⟨v1, rfl, l1, b1⟩ := fit_ints h1
  obtain ⟨v2, rfl, b2⟩ := fit_int h2
  obtain ⟨v3, rfl, b3⟩ := fit_int h3
  exact p6 v0 v1 v2 v3

set_option maxRecDepth 100000 in
theorem best_lifted (os : Os) (started : os.Started) (H : Type) (enc : TypeId × Value → H) :
    ReturnsInHanded {} Try.checked os 6 .any (Rows.cloudBestSpec.pre6 enc Try.prog Try.f6 Rows.cloudBestRow.domain false) (Rows.cloudBestSpec.post enc Try.prog Try.f6 false true false false) := by
  refine returnsInHanded_of_change (C := Try.checked) best_ownK started (by kernel_rfl) Try.func6
    (ChangeSpec.witness6 (enc := enc) (C := Try.checked) false ⟨#[], #[.slice none 0 0, .slice none 0 0, .int .i64 0, .int .i64 0], []⟩ 8 (by kernel_rfl) (by kernel_rfl) (by kernel_rfl) (by kernel_rfl)) ?_
  intro W base args ds gs before hval hW hcnd _
  exact row_true (tys := [.sl (.int .i64), .sl (.int .i64), .int .i64, .int .i64]) (bt := 4) best_laid (by kernel_rfl) (by kernel_rfl) (by kernel_rfl) best_bool rfl (fun ds hds => by
    match ds, hds with | [_, _, _, _], _ => rfl) best_fits hval hW

theorem best_holds : Rows.CloudBestSaid :=
  OpenClaim.holds_of_wide 6 Try.f6 rfl rfl rfl rfl rfl rfl rfl ⟨rfl, rfl, rfl, rfl, rfl⟩ rfl rfl rfl rfl rfl (by kernel_rfl) Try.func6 (by kernel_rfl)
    (of_decide_eq_true (by kernel_rfl)) (by unfold Func.isWrapper; first | (rw [if_pos (by decide +kernel)]; kernel_rfl) | (rw [if_neg (by decide +kernel)]; exact ⟨rfl, rfl⟩))
    (fun os started H enc _ => best_lifted os started H enc)

end Go.Proofs.Ytecindhbaekncaa
