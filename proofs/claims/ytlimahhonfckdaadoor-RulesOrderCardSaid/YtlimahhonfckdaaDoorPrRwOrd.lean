/-
  RulesOrder answers true for all numbers, and leaves its input as it was. No condition.
-/
import Derived.Test.YtlimahhonfckdaaDoorRows
import Derived.Test.YtlimahhonfckdaaDoorCards
import Derived.Test.YtlimahhonfckdaaDoorTie
import Derived.Test.YtlimahhonfckdaaDoorChecked
import Derived.SevenTiedAt
import Derived.ProofKit
import Derived.Stop.Joined
import Derived.Test.YtlimahhonfckdaaDoorRuG
import Derived.Test.YtlimahhonfckdaaDoorPxRF3
import Derived.Test.YtlimahhonfckdaaDoorPxU66
namespace Go.Proofs.YtlimahhonfckdaaDoor
set_option linter.unusedSimpArgs false
set_option linter.unusedVariables false
open Go.ChangeShapes Go.WideShapes Go.ChangeAt Go.RowKit Go.Aw

theorem ord_ownK : ownKnob Tryd.prog.godebug = none := by kernel_rfl
theorem ord_laid : laidOutB Tryd.prog = true := by kernel_rfl
theorem ord_bool : Tryd.prog.underlying 4 = some .bool := by kernel_rfl
theorem ord_door (os : Os) (args : Array Value) : laidMetH Tryd.prog laid5 ((World.doorLaid Tryd.prog 400 os).forCall (fun _ _ => 0) ⟨#[], args, []⟩).memory :=
  laidMetH_of_parts3 (fuel := 8) (laidMet_of_run' 8 (by kernel_rfl) (by kernel_rfl)) (by kernel_rfl) (by kernel_rfl)

theorem ord_fits (xs : List D) (h : FitAs [.arr 3 (.sl (.int .i64)), .arr 3 (.int .i64), .arr 3 (.sl (.int .i64))] xs) : PD Tryd.prog 11 xs (.d (.bool true)) := by
  obtain ⟨x0, r, rfl, h0, h⟩ := fitAs_cons h
  obtain ⟨x1, r, rfl, h1, h⟩ := fitAs_cons h
  obtain ⟨x2, r, rfl, h2, h⟩ := fitAs_cons h
  obtain rfl := fitAs_nil h
  obtain ⟨nums, rfl, l1, hn⟩ := fit_arrL h0
  obtain ⟨ranks, rfl, l2, hk⟩ := fit_arrI h1
  obtain ⟨rws, rfl, l3, hr⟩ := fit_arrL h2
  exact p11 nums rws ranks l1 l2 l3 (fun l hl => ⟨Nat.le_trans (hn l hl).1 (by decide), (hn l hl).2⟩) (fun l hl => ⟨Nat.le_trans (hr l hl).1 (by decide), (hr l hl).2⟩) hk

set_option maxRecDepth 100000 in
theorem ord_lifted (os : Os) (started : os.Started) (H : Type) (enc : TypeId × Value → H) :
    ReturnsInHanded {} Tryd.checked os 11 .any (fun w args => (Rows.rulesOrderSpec.pre enc Tryd.prog Tryd.f11 [] false w args ∧ laidMetH Tryd.prog laid5 w) ∧ sizedMet enc Tryd.prog Tryd.f11 (OpenSpec.ofChange Rows.rulesOrderSpec) false w args)
      (Rows.rulesOrderSpec.post enc Tryd.prog Tryd.f11 false true false false) := by
  refine returnsInHanded_of_change_and (C := Tryd.checked) (X := fun w _ => laidMetH Tryd.prog laid5 w) (fun _ _ _ hh h => h.of_heap hh) ord_ownK started (by kernel_rfl) Tryd.func11
    (ChangeSpec.witness_shaped (enc := enc) (C := Tryd.checked) (os := os) (X := fun w _ => laidMetH Tryd.prog laid5 w) false (World.doorLaid Tryd.prog 400 os) #[.agg #[.slice none 0 0, .slice none 0 0, .slice none 0 0], .agg #[.int .i64 0, .int .i64 0, .int .i64 0], .agg #[.slice none 0 0, .slice none 0 0, .slice none 0 0]] 8 rfl (World.shaped_of_RefB (by kernel_rfl) (by kernel_rfl)) (by kernel_rfl) (by kernel_rfl) (by kernel_rfl) (ord_door os _)) ?_
  intro W base args ds gs before hval hW _ hwt hL _
  exact row_true (tys := [.arr 3 (.sl (.int .i64)), .arr 3 (.int .i64), .arr 3 (.sl (.int .i64))]) (bt := 4) ord_laid (by kernel_rfl) (by kernel_rfl) (by kernel_rfl) ord_bool rfl (fun ds hds => by
    match ds, hds with | [_, _, _], _ => rfl) ord_fits (fo_laid hL) hval hwt hW

theorem ord_row : Rows.RulesOrderSaid :=
  OpenClaim.holds_of_wide 11 Tryd.f11 rfl rfl rfl rfl rfl rfl rfl ⟨rfl, rfl, rfl, rfl, rfl⟩ rfl rfl rfl rfl rfl (by kernel_rfl) Tryd.func11 (by kernel_rfl)
    (of_decide_eq_true (by kernel_rfl)) (by unfold Func.isWrapper; first | (rw [if_pos (by decide +kernel)]; kernel_rfl) | (rw [if_neg (by decide +kernel)]; exact ⟨rfl, rfl⟩))
    (fun os started H enc _ => ord_lifted os started H enc)

theorem ord_holds : Rows.RulesOrderCardSaid :=
  Claim7.holds_tied_plain_at .later [] [.data, .data, .data, .sentinel, .sentinel] true (true, "ef0a82f29212a913c64709caee180acc097113bbec02f092150fabd23ccf96df") true
    ord_row (fun _ h => by cases h) (by kernel_rfl) (fun _ h => by cases h) rulesOrder_row_tie rfl ⟨rfl, rfl⟩ (by kernel_rfl) rfl
    (fun f fn hf hfn => by
      obtain rfl : f = 11 := Option.some.inj ((show Tryd.prog.funcNamed "kerbstone/kerbstonelaw06.RulesOrder" = some 11 by kernel_rfl).symm.trans hf) |>.symm
      obtain rfl : fn = Tryd.f11 := (Option.some.inj (Tryd.func11.symm.trans hfn)).symm
      exact ⟨by kernel_rfl, fun j t ht => by
        rw [Tryd.params11] at ht
        have hm : t ∈ [73, 74, 73] := by simpa using Array.mem_of_getElem? ht
        have hall : ([73, 74, 73].all fun u => !Tryd.prog.wantsStandIn u) = true := by kernel_rfl
        exact (show Tryd.prog.wantsStandIn t = false by simpa using List.all_eq_true.1 hall t hm)⟩)
    (by kernel_rfl)

end Go.Proofs.YtlimahhonfckdaaDoor
