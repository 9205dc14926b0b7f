/-
  RulesTexts answers true for every formula and every text, and leaves its input as it was. No condition.
-/
import Derived.Test.YtlimahhonfckdaaDoorRows
import Derived.Test.YtlimahhonfckdaaDoorCards
import Derived.Test.YtlimahhonfckdaaDoorTie
import Derived.Test.YtlimahhonfckdaaDoorChecked
import Derived.SevenTiedAt
import Derived.ProofKit
import Derived.Stop.Joined
import Derived.Test.YtlimahhonfckdaaDoorRuG
import Derived.Test.YtlimahhonfckdaaDoorPxU61
namespace Go.Proofs.YtlimahhonfckdaaDoor
set_option linter.unusedSimpArgs false
set_option linter.unusedVariables false
open Go.ChangeShapes Go.WideShapes Go.ChangeAt Go.RowKit Go.Aw

theorem txt_ownK : ownKnob Tryd.prog.godebug = none := by kernel_rfl
theorem txt_laid : laidOutB Tryd.prog = true := by kernel_rfl
theorem txt_bool : Tryd.prog.underlying 4 = some .bool := by kernel_rfl
theorem txt_door (os : Os) (args : Array Value) : laidMetH Tryd.prog laid5 ((World.doorLaid Tryd.prog 400 os).forCall (fun _ _ => 0) ⟨#[], args, []⟩).memory :=
  laidMetH_of_parts3 (fuel := 8) (laidMet_of_run' 8 (by kernel_rfl) (by kernel_rfl)) (by kernel_rfl) (by kernel_rfl)

theorem txt_fits (xs : List D) (h : FitAs [.sl tyNd, .str] xs) : PD Tryd.prog 8 xs (.d (.bool true)) := by
  obtain ⟨x0, r, rfl, h0, h⟩ := fitAs_cons h
  obtain ⟨x1, r, rfl, h1, h⟩ := fitAs_cons h
  obtain rfl := fitAs_nil h
  obtain ⟨f, rfl, hf, _⟩ := fit_nds h0
  obtain ⟨s, rfl, hs⟩ := fit_str h1
  have h := p8 f s.data.toList (Nat.le_trans hf (by decide)) (by rw [Array.length_toList]; exact Nat.le_trans hs (by decide))
  rwa [bs_all] at h

set_option maxRecDepth 100000 in
theorem txt_lifted (os : Os) (started : os.Started) (H : Type) (enc : TypeId × Value → H) :
    ReturnsInHanded {} Tryd.checked os 8 .any (fun w args => (Rows.rulesTextsSpec.pre enc Tryd.prog Tryd.f8 [] false w args ∧ laidMetH Tryd.prog laid5 w) ∧ sizedMet enc Tryd.prog Tryd.f8 (OpenSpec.ofChange Rows.rulesTextsSpec) false w args)
      (Rows.rulesTextsSpec.post enc Tryd.prog Tryd.f8 false true false false) := by
  refine returnsInHanded_of_change_and (C := Tryd.checked) (X := fun w _ => laidMetH Tryd.prog laid5 w) (fun _ _ _ hh h => h.of_heap hh) txt_ownK started (by kernel_rfl) Tryd.func8
    (ChangeSpec.witness_shaped (enc := enc) (C := Tryd.checked) (os := os) (X := fun w _ => laidMetH Tryd.prog laid5 w) false (World.doorLaid Tryd.prog 400 os) #[.slice none 0 0, .string ⟨#[]⟩] 8 rfl (World.shaped_of_RefB (by kernel_rfl) (by kernel_rfl)) (by kernel_rfl) (by kernel_rfl) (by kernel_rfl) (txt_door os _)) ?_
  intro W base args ds gs before hval hW _ hwt hL _
  exact row_true (tys := [.sl tyNd, .str]) (bt := 4) txt_laid (by kernel_rfl) (by kernel_rfl) (by kernel_rfl) txt_bool rfl (fun ds hds => by
    match ds, hds with | [_, _], _ => rfl) txt_fits (fo_laid hL) hval hwt hW

theorem txt_row : Rows.RulesTextsSaid :=
  OpenClaim.holds_of_wide 8 Tryd.f8 rfl rfl rfl rfl rfl rfl rfl ⟨rfl, rfl, rfl, rfl, rfl⟩ rfl rfl rfl rfl rfl (by kernel_rfl) Tryd.func8 (by kernel_rfl)
    (of_decide_eq_true (by kernel_rfl)) (by unfold Func.isWrapper; first | (rw [if_pos (by decide +kernel)]; kernel_rfl) | (rw [if_neg (by decide +kernel)]; exact ⟨rfl, rfl⟩))
    (fun os started H enc _ => txt_lifted os started H enc)

theorem txt_holds : Rows.RulesTextsCardSaid :=
  Claim7.holds_tied_plain_at .later [] [.data, .data, .data, .sentinel, .sentinel] true (true, "ef0a82f29212a913c64709caee180acc097113bbec02f092150fabd23ccf96df") true
    txt_row (fun _ h => by cases h) (by kernel_rfl) (fun _ h => by cases h) rulesTexts_row_tie rfl ⟨rfl, rfl⟩ (by kernel_rfl) rfl
    (fun f fn hf hfn => by
      obtain rfl : f = 8 := Option.some.inj ((show Tryd.prog.funcNamed "kerbstone/kerbstonelaw06.RulesTexts" = some 8 by kernel_rfl).symm.trans hf) |>.symm
      obtain rfl : fn = Tryd.f8 := (Option.some.inj (Tryd.func8.symm.trans hfn)).symm
      exact ⟨by kernel_rfl, fun j t ht => by
        rw [Tryd.params8] at ht
        have hm : t ∈ [22, 9] := by simpa using Array.mem_of_getElem? ht
        have hall : ([22, 9].all fun u => !Tryd.prog.wantsStandIn u) = true := by kernel_rfl
        exact (show Tryd.prog.wantsStandIn t = false by simpa using List.all_eq_true.1 hall t hm)⟩)
    (by kernel_rfl)

end Go.Proofs.YtlimahhonfckdaaDoor
