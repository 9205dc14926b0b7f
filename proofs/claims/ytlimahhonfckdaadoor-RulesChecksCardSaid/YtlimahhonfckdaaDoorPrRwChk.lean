/-
  RulesChecks answers true for every formula, every width and every trace, and leaves its input as it was. No condition.
-/
import Derived.Test.YtlimahhonfckdaaDoorRows
import Derived.Test.YtlimahhonfckdaaDoorCards
import Derived.Test.YtlimahhonfckdaaDoorTie
import Derived.Test.YtlimahhonfckdaaDoorChecked
import Derived.SevenTiedAt
import Derived.ProofKit
import Derived.Stop.Joined
import Derived.Test.YtlimahhonfckdaaDoorRuG
import Derived.Test.YtlimahhonfckdaaDoorPxU41
namespace Go.Proofs.YtlimahhonfckdaaDoor
set_option linter.unusedSimpArgs false
set_option linter.unusedVariables false
open Go.ChangeShapes Go.WideShapes Go.ChangeAt Go.RowKit Go.Aw

theorem chk_ownK : ownKnob Tryd.prog.godebug = none := by kernel_rfl
theorem chk_laid : laidOutB Tryd.prog = true := by kernel_rfl
theorem chk_bool : Tryd.prog.underlying 4 = some .bool := by kernel_rfl
theorem chk_door (os : Os) (args : Array Value) : laidMetH Tryd.prog laid5 ((World.doorLaid Tryd.prog 400 os).forCall (fun _ _ => 0) ⟨#[], args, []⟩).memory :=
  laidMetH_of_parts3 (fuel := 8) (laidMet_of_run' 8 (by kernel_rfl) (by kernel_rfl)) (by kernel_rfl) (by kernel_rfl)

theorem chk_fits (xs : List D) (h : FitAs [.sl tyNd, .int .i64, .sl (.sl (.int .i64))] xs) : PD Tryd.prog 3 xs (.d (.bool true)) := by
  obtain ⟨x0, r, rfl, h0, h⟩ := fitAs_cons h
  obtain ⟨x1, r, rfl, h1, h⟩ := fitAs_cons h
  obtain ⟨x2, r, rfl, h2, h⟩ := fitAs_cons h
  obtain rfl := fitAs_nil h
  obtain ⟨f, rfl, hf, _⟩ := fit_nds h0
  obtain ⟨w, rfl, _⟩ := fit_int h1
  obtain ⟨t, rfl, ht, hr⟩ := fit_rows h2
  exact p3 f w t (Nat.le_trans hf (by decide)) (Nat.le_trans ht (by decide)) fun r h => Nat.le_trans (hr r h).1 (by decide)

set_option maxRecDepth 100000 in
theorem chk_lifted (os : Os) (started : os.Started) (H : Type) (enc : TypeId × Value → H) :
    ReturnsInHanded {} Tryd.checked os 3 .any (fun w args => (Rows.rulesChecksSpec.pre enc Tryd.prog Tryd.f3 [] false w args ∧ laidMetH Tryd.prog laid5 w) ∧ sizedMet enc Tryd.prog Tryd.f3 (OpenSpec.ofChange Rows.rulesChecksSpec) false w args)
      (Rows.rulesChecksSpec.post enc Tryd.prog Tryd.f3 false true false false) := by
  refine returnsInHanded_of_change_and (C := Tryd.checked) (X := fun w _ => laidMetH Tryd.prog laid5 w) (fun _ _ _ hh h => h.of_heap hh) chk_ownK started (by kernel_rfl) Tryd.func3
    (ChangeSpec.witness_shaped (enc := enc) (C := Tryd.checked) (os := os) (X := fun w _ => laidMetH Tryd.prog laid5 w) false (World.doorLaid Tryd.prog 400 os) #[.slice none 0 0, .int .i64 0, .slice none 0 0] 8 rfl (World.shaped_of_RefB (by kernel_rfl) (by kernel_rfl)) (by kernel_rfl) (by kernel_rfl) (by kernel_rfl) (chk_door os _)) ?_
  intro W base args ds gs before hval hW _ hwt hL _
  exact row_true (tys := [.sl tyNd, .int .i64, .sl (.sl (.int .i64))]) (bt := 4) chk_laid (by kernel_rfl) (by kernel_rfl) (by kernel_rfl) chk_bool rfl (fun ds hds => by
    match ds, hds with | [_, _, _], _ => rfl) chk_fits (fo_laid hL) hval hwt hW

theorem chk_row : Rows.RulesChecksSaid :=
  OpenClaim.holds_of_wide 3 Tryd.f3 rfl rfl rfl rfl rfl rfl rfl ⟨rfl, rfl, rfl, rfl, rfl⟩ rfl rfl rfl rfl rfl (by kernel_rfl) Tryd.func3 (by kernel_rfl)
    (of_decide_eq_true (by kernel_rfl)) (by unfold Func.isWrapper; first | (rw [if_pos (by decide +kernel)]; kernel_rfl) | (rw [if_neg (by decide +kernel)]; exact ⟨rfl, rfl⟩))
    (fun os started H enc _ => chk_lifted os started H enc)

theorem chk_holds : Rows.RulesChecksCardSaid :=
  Claim7.holds_tied_plain_at .later [] [.data, .data, .data, .sentinel, .sentinel] true (true, "ef0a82f29212a913c64709caee180acc097113bbec02f092150fabd23ccf96df") true
    chk_row (fun _ h => by cases h) (by kernel_rfl) (fun _ h => by cases h) rulesChecks_row_tie rfl ⟨rfl, rfl⟩ (by kernel_rfl) rfl
    (fun f fn hf hfn => by
      obtain rfl : f = 3 := Option.some.inj ((show Tryd.prog.funcNamed "kerbstone/kerbstonelaw06.RulesChecks" = some 3 by kernel_rfl).symm.trans hf) |>.symm
      obtain rfl : fn = Tryd.f3 := (Option.some.inj (Tryd.func3.symm.trans hfn)).symm
      exact ⟨by kernel_rfl, fun j t ht => by
        rw [Tryd.params3] at ht
        have hm : t ∈ [22, 3, 23] := by simpa using Array.mem_of_getElem? ht
        have hall : ([22, 3, 23].all fun u => !Tryd.prog.wantsStandIn u) = true := by kernel_rfl
        exact (show Tryd.prog.wantsStandIn t = false by simpa using List.all_eq_true.1 hall t hm)⟩)
    (by kernel_rfl)

end Go.Proofs.YtlimahhonfckdaaDoor
