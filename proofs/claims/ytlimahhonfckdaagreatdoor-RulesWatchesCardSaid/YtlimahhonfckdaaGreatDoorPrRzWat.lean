/-
  RulesWatches answers true for every formula,every width,every trace and all numbers,and leaves its input as it was. No condition.
-/
import Derived.Test.YtlimahhonfckdaaGreatDoorRows
import Derived.Test.YtlimahhonfckdaaGreatDoorCards
import Derived.Test.YtlimahhonfckdaaGreatDoorTie
import Derived.Test.YtlimahhonfckdaaGreatDoorChecked
import Derived.SevenTiedAt
import Derived.ProofKit
import Derived.Stop.Joined
import Derived.Test.YtlimahhonfckdaaGreatDoorRuG
import Derived.Test.YtlimahhonfckdaaGreatDoorPxY21
namespace Go.Proofs.YtlimahhonfckdaaGreatDoor
set_option linter.unusedSimpArgs false
set_option linter.unusedVariables false
open Go.ChangeShapes Go.WideShapes Go.ChangeAt Go.RowKit Go.Aw

theorem wat_ownK:ownKnob Tryz.prog.godebug=none:=by kernel_rfl
theorem wat_laid:laidOutB Tryz.prog=true:=by kernel_rfl
theorem wat_bool:Tryz.prog.underlying 4=some .bool:=by kernel_rfl
theorem wat_door (os:Os) (args:Array Value) : laidMetH Tryz.prog laid5 ((World.doorLaid Tryz.prog 400 os).forCall (fun _ _=>0) ⟨#[],args,[]⟩).memory :=
  laidMetH_of_parts3 (fuel:=8) (laidMet_of_run' 8 (by kernel_rfl) (by kernel_rfl)) (by kernel_rfl) (by kernel_rfl)

theorem wat_fits (xs:List D) (h:FitAs [.sl tyNd,.int .i64,.sl (.sl (.int .i64)),.sl (.int .i64),.sl (.int .i64)] xs) : PD Tryz.prog 3 xs (.d (.bool true)):=by
  obtain ⟨x0,r,rfl,h0,h⟩:=fitAs_cons h
  obtain ⟨x1,r,rfl,h1,h⟩:=fitAs_cons h
  obtain ⟨x2,r,rfl,h2,h⟩:=fitAs_cons h
  obtain ⟨x3,r,rfl,h3,h⟩:=fitAs_cons h
  obtain ⟨x4,r,rfl,h4,h⟩:=fitAs_cons h
  obtain rfl:=fitAs_nil h
  obtain ⟨f,rfl,hf,_⟩:=fit_nds h0
  obtain ⟨wd,rfl,_⟩:=fit_int h1
  obtain ⟨T,rfl,hT,hr⟩:=fit_rows h2
  obtain ⟨nums,rfl,hn1,hn2⟩:=fit_longs h3
  obtain ⟨rows,rfl,hr1,hr2⟩:=fit_longs h4
  obtain ⟨t,ht⟩:=tree_ex f wd
  exact q3 f wd t T nums rows (Nat.le_trans hf (by decide)) (Nat.le_trans hT (by decide)) (fun r h=>Nat.le_trans (hr r h).1 (by decide)) ht ⟨Nat.le_trans hn1 (by decide),hn2⟩ ⟨Nat.le_trans hr1 (by decide),hr2⟩

set_option maxRecDepth 100000 in
theorem wat_lifted (os:Os) (started:os.Started) (H:Type) (enc:TypeId × Value→H) :
    ReturnsInHanded {} Tryz.checked os 3 .any (fun w args=>(Rows.rulesWatchesSpec.pre enc Tryz.prog Tryz.f3 [] false w args∧laidMetH Tryz.prog laid5 w)∧sizedMet enc Tryz.prog Tryz.f3 (OpenSpec.ofChange Rows.rulesWatchesSpec) false w args)
      (Rows.rulesWatchesSpec.post enc Tryz.prog Tryz.f3 false true false false):=by
  refine returnsInHanded_of_change_and (C:=Tryz.checked) (X:=fun w _=>laidMetH Tryz.prog laid5 w) (fun _ _ _ hh h=>h.of_heap hh) wat_ownK started (by kernel_rfl) Tryz.func3
    (ChangeSpec.witness_shaped (enc:=enc) (C:=Tryz.checked) (os:=os) (X:=fun w _=>laidMetH Tryz.prog laid5 w) false (World.doorLaid Tryz.prog 400 os) #[.slice none 0 0,.int .i64 0,.slice none 0 0,.slice none 0 0,.slice none 0 0] 8 rfl (World.shaped_of_RefB (by kernel_rfl) (by kernel_rfl)) (by kernel_rfl) (by kernel_rfl) (by kernel_rfl) (wat_door os _)) ?_
  intro W base args ds gs before hval hW _ hwt hL _
  exact row_true (tys:=[.sl tyNd,.int .i64,.sl (.sl (.int .i64)),.sl (.int .i64),.sl (.int .i64)]) (bt:=4) wat_laid (by kernel_rfl) (by kernel_rfl) (by kernel_rfl) wat_bool rfl (fun ds hds=>by
    match ds,hds with | [_,_,_,_,_],_=>rfl) wat_fits (fo_laid hL) hval hwt hW

theorem wat_row:Rows.RulesWatchesSaid :=
  OpenClaim.holds_of_wide 3 Tryz.f3 rfl rfl rfl rfl rfl rfl rfl ⟨rfl,rfl,rfl,rfl,rfl⟩ rfl rfl rfl rfl rfl (by kernel_rfl) Tryz.func3 (by kernel_rfl)
    (of_decide_eq_true (by kernel_rfl)) (by unfold Func.isWrapper; first | (rw [if_pos (by decide +kernel)]; kernel_rfl) | (rw [if_neg (by decide +kernel)]; exact ⟨rfl,rfl⟩))
    (fun os started H enc _=>wat_lifted os started H enc)

theorem wat_holds:Rows.RulesWatchesCardSaid :=
  Claim7.holds_tied_plain_at .later [] [.data, .data, .data, .sentinel, .sentinel] true (true, "858673a04adba817198c57ed1daf5f76bf09eb56b810b85639f874c3d3f8dfca") true
    wat_row (fun _ h=>by cases h) (by kernel_rfl) (fun _ h=>by cases h) rulesWatches_row_tie rfl ⟨rfl,rfl⟩ (by kernel_rfl) rfl
    (fun f fn hf hfn=>by
      obtain rfl : f = 3 := Option.some.inj ((show Tryz.prog.funcNamed "kerbstone/kerbstonelaw06.RulesWatches" = some 3 by kernel_rfl).symm.trans hf) |>.symm
      obtain rfl:fn=Tryz.f3:=(Option.some.inj (Tryz.func3.symm.trans hfn)).symm
      exact ⟨by kernel_rfl,fun j t ht=>by
        rw [Tryz.params3] at ht
        have hm:t∈[22,3,23,24,24]:=by simpa using Array.mem_of_getElem? ht
        have hall:([22,3,23,24,24].all fun u => !Tryz.prog.wantsStandIn u)=true:=by kernel_rfl
        exact (show Tryz.prog.wantsStandIn t=false by simpa using List.all_eq_true.1 hall t hm)⟩)
    (by kernel_rfl)

end Go.Proofs.YtlimahhonfckdaaGreatDoor
