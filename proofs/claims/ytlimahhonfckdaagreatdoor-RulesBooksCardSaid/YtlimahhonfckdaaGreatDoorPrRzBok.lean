/-
  RulesBooks answers true for every book, every width and every two traces, and leaves its input as it was. No condition.
-/
import Derived.Test.YtlimahhonfckdaaGreatDoorRows
import Derived.Test.YtlimahhonfckdaaGreatDoorCards
import Derived.Test.YtlimahhonfckdaaGreatDoorTie
import Derived.Test.YtlimahhonfckdaaGreatDoorChecked
import Derived.SevenTiedAt
import Derived.ProofKit
import Derived.Stop.Joined
import Derived.Test.YtlimahhonfckdaaGreatDoorRuG
import Derived.Test.YtlimahhonfckdaaGreatDoorPxY2
namespace Go.Proofs.YtlimahhonfckdaaGreatDoor
set_option linter.unusedSimpArgs false
set_option linter.unusedVariables false
open Go.ChangeShapes Go.WideShapes Go.ChangeAt Go.RowKit Go.Aw

theorem bok_ownK : ownKnob Tryz.prog.godebug = none := by kernel_rfl
theorem bok_laid : laidOutB Tryz.prog = true := by kernel_rfl
theorem bok_bool : Tryz.prog.underlying 4 = some .bool := by kernel_rfl
theorem bok_door (os : Os) (args : Array Value) : laidMetH Tryz.prog laid5 ((World.doorLaid Tryz.prog 400 os).forCall (fun _ _ => 0) ⟨#[], args, []⟩).memory :=
  laidMetH_of_parts3 (fuel := 8) (laidMet_of_run' 8 (by kernel_rfl) (by kernel_rfl)) (by kernel_rfl) (by kernel_rfl)

theorem bok_fits (xs : List D) (h : FitAs [.sl tyLw, .int .i64, .sl (.sl (.int .i64)), .sl (.sl (.int .i64))] xs) : PD Tryz.prog 4 xs (.d (.bool true)) := by
  obtain ⟨x0, r, rfl, h0, h⟩ := fitAs_cons h
  obtain ⟨x1, r, rfl, h1, h⟩ := fitAs_cons h
  obtain ⟨x2, r, rfl, h2, h⟩ := fitAs_cons h
  obtain ⟨x3, r, rfl, h3, h⟩ := fitAs_cons h
  obtain rfl := fitAs_nil h
  obtain ⟨w, rfl, _⟩ := fit_int h1
  obtain ⟨b, rfl, hb, hn, ht⟩ := fit_laws w h0
  obtain ⟨t, rfl, ht1, _⟩ := fit_rows h2
  obtain ⟨u, rfl, hu1, _⟩ := fit_rows h3
  exact q4 b w t u (Nat.le_trans hb (by decide)) (fun l hl => Nat.le_trans (hn l hl) (by decide)) ht (Nat.le_trans ht1 (by decide)) (Nat.le_trans hu1 (by decide))

set_option maxRecDepth 100000 in
theorem bok_lifted (os : Os) (started : os.Started) (H : Type) (enc : TypeId × Value → H) :
    ReturnsInHanded {} Tryz.checked os 4 .any (fun w args => (Rows.rulesBooksSpec.pre enc Tryz.prog Tryz.f4 [] false w args ∧ laidMetH Tryz.prog laid5 w) ∧ sizedMet enc Tryz.prog Tryz.f4 (OpenSpec.ofChange Rows.rulesBooksSpec) false w args)
      (Rows.rulesBooksSpec.post enc Tryz.prog Tryz.f4 false true false false) := by
  refine returnsInHanded_of_change_and (C := Tryz.checked) (X := fun w _ => laidMetH Tryz.prog laid5 w) (fun _ _ _ hh h => h.of_heap hh) bok_ownK started (by kernel_rfl) Tryz.func4
    (ChangeSpec.witness_shaped (enc := enc) (C := Tryz.checked) (os := os) (X := fun w _ => laidMetH Tryz.prog laid5 w) false (World.doorLaid Tryz.prog 400 os) #[.slice none 0 0, .int .i64 0, .slice none 0 0, .slice none 0 0] 8 rfl (World.shaped_of_RefB (by kernel_rfl) (by kernel_rfl)) (by kernel_rfl) (by kernel_rfl) (by kernel_rfl) (bok_door os _)) ?_
  intro W base args ds gs before hval hW _ hwt hL _
  exact row_true (tys := [.sl tyLw, .int .i64, .sl (.sl (.int .i64)), .sl (.sl (.int .i64))]) (bt := 4) bok_laid (by kernel_rfl) (by kernel_rfl) (by kernel_rfl) bok_bool rfl (fun ds hds => by
    match ds, hds with | [_, _, _, _], _ => rfl) bok_fits (fo_laid hL) hval hwt hW

theorem bok_row : Rows.RulesBooksSaid :=
  OpenClaim.holds_of_wide 4 Tryz.f4 rfl rfl rfl rfl rfl rfl rfl ⟨rfl, rfl, rfl, rfl, rfl⟩ rfl rfl rfl rfl rfl (by kernel_rfl) Tryz.func4 (by kernel_rfl)
    (of_decide_eq_true (by kernel_rfl)) (by unfold Func.isWrapper; first | (rw [if_pos (by decide +kernel)]; kernel_rfl) | (rw [if_neg (by decide +kernel)]; exact ⟨rfl, rfl⟩))
    (fun os started H enc _ => bok_lifted os started H enc)

theorem bok_holds : Rows.RulesBooksCardSaid :=
  Claim7.holds_tied_plain_at .later [] [.data, .data, .data, .sentinel, .sentinel] true (true, "858673a04adba817198c57ed1daf5f76bf09eb56b810b85639f874c3d3f8dfca") true
    bok_row (fun _ h => by cases h) (by kernel_rfl) (fun _ h => by cases h) rulesBooks_row_tie rfl ⟨rfl, rfl⟩ (by kernel_rfl) rfl
    (fun f fn hf hfn => by
      obtain rfl : f = 4 := Option.some.inj ((show Tryz.prog.funcNamed "kerbstone/kerbstonelaw06.RulesBooks" = some 4 by kernel_rfl).symm.trans hf) |>.symm
      obtain rfl : fn = Tryz.f4 := (Option.some.inj (Tryz.func4.symm.trans hfn)).symm
      exact ⟨by kernel_rfl, fun j t ht => by
        rw [Tryz.params4] at ht
        have hm : t ∈ [39, 3, 23, 23] := by simpa using Array.mem_of_getElem? ht
        have hall : ([39, 3, 23, 23].all fun u => !Tryz.prog.wantsStandIn u) = true := by kernel_rfl
        exact (show Tryz.prog.wantsStandIn t = false by simpa using List.all_eq_true.1 hall t hm)⟩)
    (by kernel_rfl)

end Go.Proofs.YtlimahhonfckdaaGreatDoor
