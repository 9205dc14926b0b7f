/-
  DERIVED. GIVEN WITH THE SEED: THE CARDS: each row of YtlimahhonfckdaaGreatDoorRows.lean that lists a variable, with what it lists TIED to the program's text (the seventh form; the later family's looks); each row that meets fmt, with fmt's text TOLD by the authors' own Lean function (tested against real Go, not proved from fmt's source: count such statements apart). THE CARD IS WHAT COUNTS. Prove the row's statement (the work); the ties are given (YtlimahhonfckdaaGreatDoorTie.lean); close each card by the builder's one call (the guide's Derived/Test/ToyasCard.lean, 'card_holds'). Laid BY PROGRAM, IN A SANDBOX (cutbox-door.mjs). By AI agents, Wed Nov 11 2026. No macro, syntax, notation, axiom, sorry.
-/
import Derived.Test.YtlimahhonfckdaaGreatDoorRows
import GoSem.ClaimSeven
namespace Go.Proofs.YtlimahhonfckdaaGreatDoor
namespace Rows

/-- THE TIED CARD OF 'kerbstonelaw06.RulesWatches'. -/
def rulesWatchesCard : Claim7 := { stood := { row := rulesWatchesRow, standIns := [], harness := (true, "858673a04adba817198c57ed1daf5f76bf09eb56b810b85639f874c3d3f8dfca"), looks := true }, kinds := [], alts := [], laidByText := true, laidKinds := [.data, .data, .data, .sentinel, .sentinel], laidTests := true, laidLooks := .later }
def RulesWatchesCardSaid : Prop := Claim7.holds Tryz.pinned (.plain (OpenSpec.ofChange rulesWatchesSpec)) rulesWatchesCard

/-- THE TIED CARD OF 'kerbstonelaw06.RulesBooks'. -/
def rulesBooksCard : Claim7 := { stood := { row := rulesBooksRow, standIns := [], harness := (true, "858673a04adba817198c57ed1daf5f76bf09eb56b810b85639f874c3d3f8dfca"), looks := true }, kinds := [], alts := [], laidByText := true, laidKinds := [.data, .data, .data, .sentinel, .sentinel], laidTests := true, laidLooks := .later }
def RulesBooksCardSaid : Prop := Claim7.holds Tryz.pinned (.plain (OpenSpec.ofChange rulesBooksSpec)) rulesBooksCard

/-- THE TIED CARD OF 'kerbstonelaw06.RulesPossible'. -/
def rulesPossibleCard : Claim7 := { stood := { row := rulesPossibleRow, standIns := [], harness := (true, "858673a04adba817198c57ed1daf5f76bf09eb56b810b85639f874c3d3f8dfca"), looks := true }, kinds := [], alts := [], laidByText := true, laidKinds := [.data, .data, .data, .sentinel, .sentinel], laidTests := true, laidLooks := .later }
def RulesPossibleCardSaid : Prop := Claim7.holds Tryz.pinned (.plain (OpenSpec.ofChange rulesPossibleSpec)) rulesPossibleCard

/-- THE TIED CARD OF 'kerbstonelaw06.RulesLast'. -/
def rulesLastCard : Claim7 := { stood := { row := rulesLastRow, standIns := [], harness := (true, "858673a04adba817198c57ed1daf5f76bf09eb56b810b85639f874c3d3f8dfca"), looks := true }, kinds := [], alts := [], laidByText := true, laidKinds := [.data, .data, .data, .sentinel, .sentinel], laidTests := true, laidLooks := .later }
def RulesLastCardSaid : Prop := Claim7.holds Tryz.pinned (.plain (OpenSpec.ofChange rulesLastSpec)) rulesLastCard

/-- THE TIED CARD OF 'kerbstonelaw06.RulesBlame'. -/
def rulesBlameCard : Claim7 := { stood := { row := rulesBlameRow, standIns := [], harness := (true, "858673a04adba817198c57ed1daf5f76bf09eb56b810b85639f874c3d3f8dfca"), looks := true }, kinds := [], alts := [], laidByText := true, laidKinds := [.data, .data, .data, .sentinel, .sentinel], laidTests := true, laidLooks := .later }
def RulesBlameCardSaid : Prop := Claim7.holds Tryz.pinned (.plain (OpenSpec.ofChange rulesBlameSpec)) rulesBlameCard

/-- THE TIED CARD OF 'kerbstonelaw06.RulesKnown'. -/
def rulesKnownCard : Claim7 := { stood := { row := rulesKnownRow, standIns := [], harness := (true, "858673a04adba817198c57ed1daf5f76bf09eb56b810b85639f874c3d3f8dfca"), looks := true }, kinds := [], alts := [], laidByText := true, laidKinds := [.data, .data, .data, .sentinel, .sentinel], laidTests := true, laidLooks := .later }
def RulesKnownCardSaid : Prop := Claim7.holds Tryz.pinned (.plain (OpenSpec.ofChange rulesKnownSpec)) rulesKnownCard

/-- THE SECOND FORM's CARD OF 'kerbstonelaw06.RulesWatches'. -/
def rulesWatchesUptoCard : Claim7 := { stood := { row := rulesWatchesUptoRow, standIns := [], harness := (true, "858673a04adba817198c57ed1daf5f76bf09eb56b810b85639f874c3d3f8dfca"), looks := true }, kinds := [], alts := [], laidByText := true, laidKinds := [.data, .data, .data, .sentinel, .sentinel], laidTests := true, laidLooks := .later }
def RulesWatchesUptoCardSaid : Prop := Claim7.holds Tryz.pinned (.plain (OpenSpec.upto rulesWatchesSpec)) rulesWatchesUptoCard

/-- THE SECOND FORM's CARD OF 'kerbstonelaw06.RulesBooks'. -/
def rulesBooksUptoCard : Claim7 := { stood := { row := rulesBooksUptoRow, standIns := [], harness := (true, "858673a04adba817198c57ed1daf5f76bf09eb56b810b85639f874c3d3f8dfca"), looks := true }, kinds := [], alts := [], laidByText := true, laidKinds := [.data, .data, .data, .sentinel, .sentinel], laidTests := true, laidLooks := .later }
def RulesBooksUptoCardSaid : Prop := Claim7.holds Tryz.pinned (.plain (OpenSpec.upto rulesBooksSpec)) rulesBooksUptoCard

/-- THE SECOND FORM's CARD OF 'kerbstonelaw06.RulesPossible'. -/
def rulesPossibleUptoCard : Claim7 := { stood := { row := rulesPossibleUptoRow, standIns := [], harness := (true, "858673a04adba817198c57ed1daf5f76bf09eb56b810b85639f874c3d3f8dfca"), looks := true }, kinds := [], alts := [], laidByText := true, laidKinds := [.data, .data, .data, .sentinel, .sentinel], laidTests := true, laidLooks := .later }
def RulesPossibleUptoCardSaid : Prop := Claim7.holds Tryz.pinned (.plain (OpenSpec.upto rulesPossibleSpec)) rulesPossibleUptoCard

/-- THE SECOND FORM's CARD OF 'kerbstonelaw06.RulesLast'. -/
def rulesLastUptoCard : Claim7 := { stood := { row := rulesLastUptoRow, standIns := [], harness := (true, "858673a04adba817198c57ed1daf5f76bf09eb56b810b85639f874c3d3f8dfca"), looks := true }, kinds := [], alts := [], laidByText := true, laidKinds := [.data, .data, .data, .sentinel, .sentinel], laidTests := true, laidLooks := .later }
def RulesLastUptoCardSaid : Prop := Claim7.holds Tryz.pinned (.plain (OpenSpec.upto rulesLastSpec)) rulesLastUptoCard

/-- THE SECOND FORM's CARD OF 'kerbstonelaw06.RulesBlame'. -/
def rulesBlameUptoCard : Claim7 := { stood := { row := rulesBlameUptoRow, standIns := [], harness := (true, "858673a04adba817198c57ed1daf5f76bf09eb56b810b85639f874c3d3f8dfca"), looks := true }, kinds := [], alts := [], laidByText := true, laidKinds := [.data, .data, .data, .sentinel, .sentinel], laidTests := true, laidLooks := .later }
def RulesBlameUptoCardSaid : Prop := Claim7.holds Tryz.pinned (.plain (OpenSpec.upto rulesBlameSpec)) rulesBlameUptoCard

/-- THE SECOND FORM's CARD OF 'kerbstonelaw06.RulesKnown'. -/
def rulesKnownUptoCard : Claim7 := { stood := { row := rulesKnownUptoRow, standIns := [], harness := (true, "858673a04adba817198c57ed1daf5f76bf09eb56b810b85639f874c3d3f8dfca"), looks := true }, kinds := [], alts := [], laidByText := true, laidKinds := [.data, .data, .data, .sentinel, .sentinel], laidTests := true, laidLooks := .later }
def RulesKnownUptoCardSaid : Prop := Claim7.holds Tryz.pinned (.plain (OpenSpec.upto rulesKnownSpec)) rulesKnownUptoCard
end Rows
end Go.Proofs.YtlimahhonfckdaaGreatDoor
