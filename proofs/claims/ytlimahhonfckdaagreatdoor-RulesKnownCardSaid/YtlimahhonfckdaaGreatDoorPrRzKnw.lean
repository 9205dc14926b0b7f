/-
  RulesKnown answers true. No condition.
-/
import Derived.Test.YtlimahhonfckdaaGreatDoorRows
import Derived.Test.YtlimahhonfckdaaGreatDoorCards
import Derived.Test.YtlimahhonfckdaaGreatDoorTie
import Derived.Test.YtlimahhonfckdaaGreatDoorChecked
import Derived.SevenTiedAt
import Derived.ProofKit
import Derived.Stop.Joined
import Derived.Test.YtlimahhonfckdaaGreatDoorRuG
import Derived.Test.YtlimahhonfckdaaGreatDoorPxY24
namespace Go.Proofs.YtlimahhonfckdaaGreatDoor
set_option linter.unusedSimpArgs false
set_option linter.unusedVariables false
open Go.ChangeShapes Go.WideShapes Go.ChangeAt Go.RowKit Go.Aw

theorem knw_ownK:ownKnob Tryz.prog.godebug=none:=by kernel_rfl
theorem knw_laid:laidOutB Tryz.prog=true:=by kernel_rfl
theorem knw_bool:Tryz.prog.underlying 4=some .bool:=by kernel_rfl
theorem knw_door (os:Os) (args:Array Value) : laidMetH Tryz.prog laid5 ((World.doorLaid Tryz.prog 400 os).forCall (fun _ _=>0) ⟨#[],args,[]⟩).memory :=
  laidMetH_of_parts3 (fuel:=8) (laidMet_of_run' 8 (by kernel_rfl) (by kernel_rfl)) (by kernel_rfl) (by kernel_rfl)

theorem knw_fits (xs:List D) (h:FitAs [] xs) : PD Tryz.prog 8 xs (.d (.bool true)):=by
  obtain rfl:=fitAs_nil h
  exact q8

set_option maxRecDepth 100000 in
theorem knw_lifted (os:Os) (started:os.Started) (H:Type) (enc:TypeId × Value→H) :
    ReturnsInHanded {} Tryz.checked os 8 .any (fun w args=>(Rows.rulesKnownSpec.pre enc Tryz.prog Tryz.f8 [] false w args∧laidMetH Tryz.prog laid5 w)∧sizedMet enc Tryz.prog Tryz.f8 (OpenSpec.ofChange Rows.rulesKnownSpec) false w args)
      (Rows.rulesKnownSpec.post enc Tryz.prog Tryz.f8 false true false false):=by
  refine returnsInHanded_of_change_and (C:=Tryz.checked) (X:=fun w _=>laidMetH Tryz.prog laid5 w) (fun _ _ _ hh h=>h.of_heap hh) knw_ownK started (by kernel_rfl) Tryz.func8
    (ChangeSpec.witness_shaped (enc:=enc) (C:=Tryz.checked) (os:=os) (X:=fun w _=>laidMetH Tryz.prog laid5 w) false (World.doorLaid Tryz.prog 400 os) #[] 8 rfl (World.shaped_of_RefB (by kernel_rfl) (by kernel_rfl)) (by kernel_rfl) (by kernel_rfl) (by kernel_rfl) (knw_door os _)) ?_
  intro W base args ds gs before hval hW _ hwt hL _
  exact row_true (tys:=[]) (bt:=4) knw_laid (by kernel_rfl) (by kernel_rfl) (by kernel_rfl) knw_bool rfl (fun ds hds=>by
    match ds,hds with | [],_=>rfl) knw_fits (fo_laid hL) hval hwt hW

theorem knw_row:Rows.RulesKnownSaid :=
  OpenClaim.holds_of_wide 8 Tryz.f8 rfl rfl rfl rfl rfl rfl rfl ⟨rfl,rfl,rfl,rfl,rfl⟩ rfl rfl rfl rfl rfl (by kernel_rfl) Tryz.func8 (by kernel_rfl)
    (of_decide_eq_true (by kernel_rfl)) (by unfold Func.isWrapper; first | (rw [if_pos (by decide +kernel)]; kernel_rfl) | (rw [if_neg (by decide +kernel)]; exact ⟨rfl,rfl⟩))
    (fun os started H enc _=>knw_lifted os started H enc)

theorem knw_holds:Rows.RulesKnownCardSaid :=
  Claim7.holds_tied_plain_at .later [] [.data, .data, .data, .sentinel, .sentinel] true (true, "858673a04adba817198c57ed1daf5f76bf09eb56b810b85639f874c3d3f8dfca") true
    knw_row (fun _ h=>by cases h) (by kernel_rfl) (fun _ h=>by cases h) rulesKnown_row_tie rfl ⟨rfl,rfl⟩ (by kernel_rfl) rfl
    (fun f fn hf hfn=>by
      obtain rfl : f = 8 := Option.some.inj ((show Tryz.prog.funcNamed "kerbstone/kerbstonelaw06.RulesKnown" = some 8 by kernel_rfl).symm.trans hf) |>.symm
      obtain rfl:fn=Tryz.f8:=(Option.some.inj (Tryz.func8.symm.trans hfn)).symm
      exact ⟨by kernel_rfl,fun j t ht=>by
        rw [Tryz.params8] at ht
        simp at ht⟩)
    (by kernel_rfl)

end Go.Proofs.YtlimahhonfckdaaGreatDoor
