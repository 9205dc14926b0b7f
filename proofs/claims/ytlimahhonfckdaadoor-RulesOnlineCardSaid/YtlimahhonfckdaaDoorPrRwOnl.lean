/-
  RulesOnline answers true for all numbers, and leaves its input as it was. No condition.
-/
import Derived.Test.YtlimahhonfckdaaDoorRows
import Derived.Test.YtlimahhonfckdaaDoorCards
import Derived.Test.YtlimahhonfckdaaDoorTie
import Derived.Test.YtlimahhonfckdaaDoorChecked
import Derived.SevenTiedAt
import Derived.ProofKit
import Derived.Stop.Joined
import Derived.Test.YtlimahhonfckdaaDoorRuG
import Derived.Test.YtlimahhonfckdaaDoorPxU74
namespace Go.Proofs.YtlimahhonfckdaaDoor
set_option linter.unusedSimpArgs false
set_option linter.unusedVariables false
open Go.ChangeShapes Go.WideShapes Go.ChangeAt Go.RowKit Go.Aw

theorem onl_ownK : ownKnob Tryd.prog.godebug = none := by kernel_rfl
theorem onl_laid : laidOutB Tryd.prog = true := by kernel_rfl
theorem onl_bool : Tryd.prog.underlying 4 = some .bool := by kernel_rfl
theorem onl_door (os : Os) (args : Array Value) : laidMetH Tryd.prog laid5 ((World.doorLaid Tryd.prog 400 os).forCall (fun _ _ => 0) ⟨#[], args, []⟩).memory :=
  laidMetH_of_parts3 (fuel := 8) (laidMet_of_run' 8 (by kernel_rfl) (by kernel_rfl)) (by kernel_rfl) (by kernel_rfl)

theorem onl_fits (xs : List D) (h : FitAs [.sl (.int .i64), .sl (.int .i64)] xs) : PD Tryd.prog 10 xs (.d (.bool true)) := by
  obtain ⟨x0, r, rfl, h0, h⟩ := fitAs_cons h
  obtain ⟨x1, r, rfl, h1, h⟩ := fitAs_cons h
  obtain rfl := fitAs_nil h
  obtain ⟨nums, rfl, hn1, hn2⟩ := fit_longs h0
  obtain ⟨rows, rfl, hr1, hr2⟩ := fit_longs h1
  exact p10 nums rows ⟨Nat.le_trans hn1 (by decide), hn2⟩ ⟨Nat.le_trans hr1 (by decide), hr2⟩

set_option maxRecDepth 100000 in
theorem onl_lifted (os : Os) (started : os.Started) (H : Type) (enc : TypeId × Value → H) :
    ReturnsInHanded {} Tryd.checked os 10 .any (fun w args => (Rows.rulesOnlineSpec.pre enc Tryd.prog Tryd.f10 [] false w args ∧ laidMetH Tryd.prog laid5 w) ∧ sizedMet enc Tryd.prog Tryd.f10 (OpenSpec.ofChange Rows.rulesOnlineSpec) false w args)
      (Rows.rulesOnlineSpec.post enc Tryd.prog Tryd.f10 false true false false) := by
  refine returnsInHanded_of_change_and (C := Tryd.checked) (X := fun w _ => laidMetH Tryd.prog laid5 w) (fun _ _ _ hh h => h.of_heap hh) onl_ownK started (by kernel_rfl) Tryd.func10
    (ChangeSpec.witness_shaped (enc := enc) (C := Tryd.checked) (os := os) (X := fun w _ => laidMetH Tryd.prog laid5 w) false (World.doorLaid Tryd.prog 400 os) #[.slice none 0 0, .slice none 0 0] 8 rfl (World.shaped_of_RefB (by kernel_rfl) (by kernel_rfl)) (by kernel_rfl) (by kernel_rfl) (by kernel_rfl) (onl_door os _)) ?_
  intro W base args ds gs before hval hW _ hwt hL _
  exact row_true (tys := [.sl (.int .i64), .sl (.int .i64)]) (bt := 4) onl_laid (by kernel_rfl) (by kernel_rfl) (by kernel_rfl) onl_bool rfl (fun ds hds => by
    match ds, hds with | [_, _], _ => rfl) onl_fits (fo_laid hL) hval hwt hW

theorem onl_row : Rows.RulesOnlineSaid :=
  OpenClaim.holds_of_wide 10 Tryd.f10 rfl rfl rfl rfl rfl rfl rfl ⟨rfl, rfl, rfl, rfl, rfl⟩ rfl rfl rfl rfl rfl (by kernel_rfl) Tryd.func10 (by kernel_rfl)
    (of_decide_eq_true (by kernel_rfl)) (by unfold Func.isWrapper; first | (rw [if_pos (by decide +kernel)]; kernel_rfl) | (rw [if_neg (by decide +kernel)]; exact ⟨rfl, rfl⟩))
    (fun os started H enc _ => onl_lifted os started H enc)

theorem onl_holds : Rows.RulesOnlineCardSaid :=
  Claim7.holds_tied_plain_at .later [] [.data, .data, .data, .sentinel, .sentinel] true (true, "ef0a82f29212a913c64709caee180acc097113bbec02f092150fabd23ccf96df") true
    onl_row (fun _ h => by cases h) (by kernel_rfl) (fun _ h => by cases h) rulesOnline_row_tie rfl ⟨rfl, rfl⟩ (by kernel_rfl) rfl
    (fun f fn hf hfn => by
      obtain rfl : f = 10 := Option.some.inj ((show Tryd.prog.funcNamed "kerbstone/kerbstonelaw06.RulesOnline" = some 10 by kernel_rfl).symm.trans hf) |>.symm
      obtain rfl : fn = Tryd.f10 := (Option.some.inj (Tryd.func10.symm.trans hfn)).symm
      exact ⟨by kernel_rfl, fun j t ht => by
        rw [Tryd.params10] at ht
        have hm : t ∈ [35, 35] := by simpa using Array.mem_of_getElem? ht
        have hall : ([35, 35].all fun u => !Tryd.prog.wantsStandIn u) = true := by kernel_rfl
        exact (show Tryd.prog.wantsStandIn t = false by simpa using List.all_eq_true.1 hall t hm)⟩)
    (by kernel_rfl)

end Go.Proofs.YtlimahhonfckdaaDoor
