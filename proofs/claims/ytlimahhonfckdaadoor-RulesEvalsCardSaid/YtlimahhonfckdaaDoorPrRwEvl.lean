/-
  RulesEvals answers true for every formula, every width, every trace, every position and all numbers, and leaves its input as it was. No condition.
-/
import Derived.Test.YtlimahhonfckdaaDoorRows
import Derived.Test.YtlimahhonfckdaaDoorCards
import Derived.Test.YtlimahhonfckdaaDoorTie
import Derived.Test.YtlimahhonfckdaaDoorChecked
import Derived.SevenTiedAt
import Derived.ProofKit
import Derived.Stop.Joined
import Derived.Test.YtlimahhonfckdaaDoorRuG
import Derived.Test.YtlimahhonfckdaaDoorPxU44
namespace Go.Proofs.YtlimahhonfckdaaDoor
set_option linter.unusedSimpArgs false
set_option linter.unusedVariables false
open Go.ChangeShapes Go.WideShapes Go.ChangeAt Go.RowKit Go.Aw

theorem evl_ownK : ownKnob Tryd.prog.godebug = none := by kernel_rfl
theorem evl_laid : laidOutB Tryd.prog = true := by kernel_rfl
theorem evl_bool : Tryd.prog.underlying 4 = some .bool := by kernel_rfl
theorem evl_door (os : Os) (args : Array Value) : laidMetH Tryd.prog laid5 ((World.doorLaid Tryd.prog 400 os).forCall (fun _ _ => 0) ⟨#[], args, []⟩).memory :=
  laidMetH_of_parts3 (fuel := 8) (laidMet_of_run' 8 (by kernel_rfl) (by kernel_rfl)) (by kernel_rfl) (by kernel_rfl)

theorem evl_fits (xs : List D) (h : FitAs [.sl tyNd, .int .i64, .sl (.sl (.int .i64)), .int .i64, .sl (.int .i64), .sl (.int .i64)] xs) : PD Tryd.prog 4 xs (.d (.bool true)) := by
  obtain ⟨x0, r, rfl, h0, h⟩ := fitAs_cons h
  obtain ⟨x1, r, rfl, h1, h⟩ := fitAs_cons h
  obtain ⟨x2, r, rfl, h2, h⟩ := fitAs_cons h
  obtain ⟨x3, r, rfl, h3, h⟩ := fitAs_cons h
  obtain ⟨x4, r, rfl, h4, h⟩ := fitAs_cons h
  obtain ⟨x5, r, rfl, h5, h⟩ := fitAs_cons h
  obtain rfl := fitAs_nil h
  obtain ⟨f, rfl, hf, _⟩ := fit_nds h0
  obtain ⟨w, rfl, _⟩ := fit_int h1
  obtain ⟨t, rfl, ht, hr⟩ := fit_rows h2
  obtain ⟨a, rfl, _, ha⟩ := fit_int h3
  obtain ⟨nums, rfl, hn1, hn2⟩ := fit_longs h4
  obtain ⟨rows, rfl, hr1, hr2⟩ := fit_longs h5
  exact p4 f w t a nums rows (Nat.le_trans hf (by decide)) (Nat.le_trans ht (by decide)) (fun r h => Nat.le_trans (hr r h).1 (by decide)) ha ⟨Nat.le_trans hn1 (by decide), hn2⟩ ⟨Nat.le_trans hr1 (by decide), hr2⟩

set_option maxRecDepth 100000 in
theorem evl_lifted (os : Os) (started : os.Started) (H : Type) (enc : TypeId × Value → H) :
    ReturnsInHanded {} Tryd.checked os 4 .any (fun w args => (Rows.rulesEvalsSpec.pre enc Tryd.prog Tryd.f4 [] false w args ∧ laidMetH Tryd.prog laid5 w) ∧ sizedMet enc Tryd.prog Tryd.f4 (OpenSpec.ofChange Rows.rulesEvalsSpec) false w args)
      (Rows.rulesEvalsSpec.post enc Tryd.prog Tryd.f4 false true false false) := by
  refine returnsInHanded_of_change_and (C := Tryd.checked) (X := fun w _ => laidMetH Tryd.prog laid5 w) (fun _ _ _ hh h => h.of_heap hh) evl_ownK started (by kernel_rfl) Tryd.func4
    (ChangeSpec.witness_shaped (enc := enc) (C := Tryd.checked) (os := os) (X := fun w _ => laidMetH Tryd.prog laid5 w) false (World.doorLaid Tryd.prog 400 os) #[.slice none 0 0, .int .i64 0, .slice none 0 0, .int .i64 0, .slice none 0 0, .slice none 0 0] 8 rfl (World.shaped_of_RefB (by kernel_rfl) (by kernel_rfl)) (by kernel_rfl) (by kernel_rfl) (by kernel_rfl) (evl_door os _)) ?_
  intro W base args ds gs before hval hW _ hwt hL _
  exact row_true (tys := [.sl tyNd, .int .i64, .sl (.sl (.int .i64)), .int .i64, .sl (.int .i64), .sl (.int .i64)]) (bt := 4) evl_laid (by kernel_rfl) (by kernel_rfl) (by kernel_rfl) evl_bool rfl (fun ds hds => by
    match ds, hds with | [_, _, _, _, _, _], _ => rfl) evl_fits (fo_laid hL) hval hwt hW

theorem evl_row : Rows.RulesEvalsSaid :=
  OpenClaim.holds_of_wide 4 Tryd.f4 rfl rfl rfl rfl rfl rfl rfl ⟨rfl, rfl, rfl, rfl, rfl⟩ rfl rfl rfl rfl rfl (by kernel_rfl) Tryd.func4 (by kernel_rfl)
    (of_decide_eq_true (by kernel_rfl)) (by unfold Func.isWrapper; first | (rw [if_pos (by decide +kernel)]; kernel_rfl) | (rw [if_neg (by decide +kernel)]; exact ⟨rfl, rfl⟩))
    (fun os started H enc _ => evl_lifted os started H enc)

theorem evl_holds : Rows.RulesEvalsCardSaid :=
  Claim7.holds_tied_plain_at .later [] [.data, .data, .data, .sentinel, .sentinel] true (true, "ef0a82f29212a913c64709caee180acc097113bbec02f092150fabd23ccf96df") true
    evl_row (fun _ h => by cases h) (by kernel_rfl) (fun _ h => by cases h) rulesEvals_row_tie rfl ⟨rfl, rfl⟩ (by kernel_rfl) rfl
    (fun f fn hf hfn => by
      obtain rfl : f = 4 := Option.some.inj ((show Tryd.prog.funcNamed "kerbstone/kerbstonelaw06.RulesEvals" = some 4 by kernel_rfl).symm.trans hf) |>.symm
      obtain rfl : fn = Tryd.f4 := (Option.some.inj (Tryd.func4.symm.trans hfn)).symm
      exact ⟨by kernel_rfl, fun j t ht => by
        rw [Tryd.params4] at ht
        have hm : t ∈ [22, 3, 23, 3, 35, 35] := by simpa using Array.mem_of_getElem? ht
        have hall : ([22, 3, 23, 3, 35, 35].all fun u => !Tryd.prog.wantsStandIn u) = true := by kernel_rfl
        exact (show Tryd.prog.wantsStandIn t = false by simpa using List.all_eq_true.1 hall t hm)⟩)
    (by kernel_rfl)

end Go.Proofs.YtlimahhonfckdaaDoor
