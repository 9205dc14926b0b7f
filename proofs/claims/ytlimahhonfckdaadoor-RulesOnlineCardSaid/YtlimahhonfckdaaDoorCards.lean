/-
  DERIVED. GIVEN WITH THE SEED: THE CARDS: each row of YtlimahhonfckdaaDoorRows.lean that lists a variable, with what it lists TIED to the program's text (the seventh form; the later family's looks); each row that meets fmt, with fmt's text TOLD by the authors' own Lean function (tested against real Go, not proved from fmt's source: count such statements apart). THE CARD IS WHAT COUNTS. Prove the row's statement (the work); the ties are given (YtlimahhonfckdaaDoorTie.lean); close each card by the builder's one call (the guide's Derived/Test/ToyasCard.lean, 'card_holds'). Laid BY PROGRAM, IN A SANDBOX (cutbox-door.mjs). By AI agents, Wed Nov 11 2026. No macro, syntax, notation, axiom, sorry.
-/
import Derived.Test.YtlimahhonfckdaaDoorRows
import GoSem.ClaimSeven
namespace Go.Proofs.YtlimahhonfckdaaDoor
namespace Rows

/-- THE TIED CARD OF 'kerbstonelaw06.RulesChecks'. -/
def rulesChecksCard : Claim7 := { stood := { row := rulesChecksRow, standIns := [], harness := (true, "ef0a82f29212a913c64709caee180acc097113bbec02f092150fabd23ccf96df"), looks := true }, kinds := [], alts := [], laidByText := true, laidKinds := [.data, .data, .data, .sentinel, .sentinel], laidTests := true, laidLooks := .later }
def RulesChecksCardSaid : Prop := Claim7.holds Tryd.pinned (.plain (OpenSpec.ofChange rulesChecksSpec)) rulesChecksCard

/-- THE TIED CARD OF 'kerbstonelaw06.RulesEvals'. -/
def rulesEvalsCard : Claim7 := { stood := { row := rulesEvalsRow, standIns := [], harness := (true, "ef0a82f29212a913c64709caee180acc097113bbec02f092150fabd23ccf96df"), looks := true }, kinds := [], alts := [], laidByText := true, laidKinds := [.data, .data, .data, .sentinel, .sentinel], laidTests := true, laidLooks := .later }
def RulesEvalsCardSaid : Prop := Claim7.holds Tryd.pinned (.plain (OpenSpec.ofChange rulesEvalsSpec)) rulesEvalsCard

/-- THE TIED CARD OF 'kerbstonelaw06.RulesStays'. -/
def rulesStaysCard : Claim7 := { stood := { row := rulesStaysRow, standIns := [], harness := (true, "ef0a82f29212a913c64709caee180acc097113bbec02f092150fabd23ccf96df"), looks := true }, kinds := [], alts := [], laidByText := true, laidKinds := [.data, .data, .data, .sentinel, .sentinel], laidTests := true, laidLooks := .later }
def RulesStaysCardSaid : Prop := Claim7.holds Tryd.pinned (.plain (OpenSpec.ofChange rulesStaysSpec)) rulesStaysCard

/-- THE TIED CARD OF 'kerbstonelaw06.RulesDual'. -/
def rulesDualCard : Claim7 := { stood := { row := rulesDualRow, standIns := [], harness := (true, "ef0a82f29212a913c64709caee180acc097113bbec02f092150fabd23ccf96df"), looks := true }, kinds := [], alts := [], laidByText := true, laidKinds := [.data, .data, .data, .sentinel, .sentinel], laidTests := true, laidLooks := .later }
def RulesDualCardSaid : Prop := Claim7.holds Tryd.pinned (.plain (OpenSpec.ofChange rulesDualSpec)) rulesDualCard

/-- THE TIED CARD OF 'kerbstonelaw06.RulesPlants'. -/
def rulesPlantsCard : Claim7 := { stood := { row := rulesPlantsRow, standIns := [], harness := (true, "ef0a82f29212a913c64709caee180acc097113bbec02f092150fabd23ccf96df"), looks := true }, kinds := [], alts := [], laidByText := true, laidKinds := [.data, .data, .data, .sentinel, .sentinel], laidTests := true, laidLooks := .later }
def RulesPlantsCardSaid : Prop := Claim7.holds Tryd.pinned (.plain (OpenSpec.ofChange rulesPlantsSpec)) rulesPlantsCard

/-- THE TIED CARD OF 'kerbstonelaw06.RulesTexts'. -/
def rulesTextsCard : Claim7 := { stood := { row := rulesTextsRow, standIns := [], harness := (true, "ef0a82f29212a913c64709caee180acc097113bbec02f092150fabd23ccf96df"), looks := true }, kinds := [], alts := [], laidByText := true, laidKinds := [.data, .data, .data, .sentinel, .sentinel], laidTests := true, laidLooks := .later }
def RulesTextsCardSaid : Prop := Claim7.holds Tryd.pinned (.plain (OpenSpec.ofChange rulesTextsSpec)) rulesTextsCard

/-- THE TIED CARD OF 'kerbstonelaw06.RulesBack'. -/
def rulesBackCard : Claim7 := { stood := { row := rulesBackRow, standIns := [], harness := (true, "ef0a82f29212a913c64709caee180acc097113bbec02f092150fabd23ccf96df"), looks := true }, kinds := [], alts := [], laidByText := true, laidKinds := [.data, .data, .data, .sentinel, .sentinel], laidTests := true, laidLooks := .later }
def RulesBackCardSaid : Prop := Claim7.holds Tryd.pinned (.plain (OpenSpec.ofChange rulesBackSpec)) rulesBackCard

/-- THE TIED CARD OF 'kerbstonelaw06.RulesOnline'. -/
def rulesOnlineCard : Claim7 := { stood := { row := rulesOnlineRow, standIns := [], harness := (true, "ef0a82f29212a913c64709caee180acc097113bbec02f092150fabd23ccf96df"), looks := true }, kinds := [], alts := [], laidByText := true, laidKinds := [.data, .data, .data, .sentinel, .sentinel], laidTests := true, laidLooks := .later }
def RulesOnlineCardSaid : Prop := Claim7.holds Tryd.pinned (.plain (OpenSpec.ofChange rulesOnlineSpec)) rulesOnlineCard

/-- THE TIED CARD OF 'kerbstonelaw06.RulesOrder'. -/
def rulesOrderCard : Claim7 := { stood := { row := rulesOrderRow, standIns := [], harness := (true, "ef0a82f29212a913c64709caee180acc097113bbec02f092150fabd23ccf96df"), looks := true }, kinds := [], alts := [], laidByText := true, laidKinds := [.data, .data, .data, .sentinel, .sentinel], laidTests := true, laidLooks := .later }
def RulesOrderCardSaid : Prop := Claim7.holds Tryd.pinned (.plain (OpenSpec.ofChange rulesOrderSpec)) rulesOrderCard

/-- THE SECOND FORM's CARD OF 'kerbstonelaw06.RulesChecks'. -/
def rulesChecksUptoCard : Claim7 := { stood := { row := rulesChecksUptoRow, standIns := [], harness := (true, "ef0a82f29212a913c64709caee180acc097113bbec02f092150fabd23ccf96df"), looks := true }, kinds := [], alts := [], laidByText := true, laidKinds := [.data, .data, .data, .sentinel, .sentinel], laidTests := true, laidLooks := .later }
def RulesChecksUptoCardSaid : Prop := Claim7.holds Tryd.pinned (.plain (OpenSpec.upto rulesChecksSpec)) rulesChecksUptoCard

/-- THE SECOND FORM's CARD OF 'kerbstonelaw06.RulesEvals'. -/
def rulesEvalsUptoCard : Claim7 := { stood := { row := rulesEvalsUptoRow, standIns := [], harness := (true, "ef0a82f29212a913c64709caee180acc097113bbec02f092150fabd23ccf96df"), looks := true }, kinds := [], alts := [], laidByText := true, laidKinds := [.data, .data, .data, .sentinel, .sentinel], laidTests := true, laidLooks := .later }
def RulesEvalsUptoCardSaid : Prop := Claim7.holds Tryd.pinned (.plain (OpenSpec.upto rulesEvalsSpec)) rulesEvalsUptoCard

/-- THE SECOND FORM's CARD OF 'kerbstonelaw06.RulesStays'. -/
def rulesStaysUptoCard : Claim7 := { stood := { row := rulesStaysUptoRow, standIns := [], harness := (true, "ef0a82f29212a913c64709caee180acc097113bbec02f092150fabd23ccf96df"), looks := true }, kinds := [], alts := [], laidByText := true, laidKinds := [.data, .data, .data, .sentinel, .sentinel], laidTests := true, laidLooks := .later }
def RulesStaysUptoCardSaid : Prop := Claim7.holds Tryd.pinned (.plain (OpenSpec.upto rulesStaysSpec)) rulesStaysUptoCard

/-- THE SECOND FORM's CARD OF 'kerbstonelaw06.RulesDual'. -/
def rulesDualUptoCard : Claim7 := { stood := { row := rulesDualUptoRow, standIns := [], harness := (true, "ef0a82f29212a913c64709caee180acc097113bbec02f092150fabd23ccf96df"), looks := true }, kinds := [], alts := [], laidByText := true, laidKinds := [.data, .data, .data, .sentinel, .sentinel], laidTests := true, laidLooks := .later }
def RulesDualUptoCardSaid : Prop := Claim7.holds Tryd.pinned (.plain (OpenSpec.upto rulesDualSpec)) rulesDualUptoCard

/-- THE SECOND FORM's CARD OF 'kerbstonelaw06.RulesPlants'. -/
def rulesPlantsUptoCard : Claim7 := { stood := { row := rulesPlantsUptoRow, standIns := [], harness := (true, "ef0a82f29212a913c64709caee180acc097113bbec02f092150fabd23ccf96df"), looks := true }, kinds := [], alts := [], laidByText := true, laidKinds := [.data, .data, .data, .sentinel, .sentinel], laidTests := true, laidLooks := .later }
def RulesPlantsUptoCardSaid : Prop := Claim7.holds Tryd.pinned (.plain (OpenSpec.upto rulesPlantsSpec)) rulesPlantsUptoCard

/-- THE SECOND FORM's CARD OF 'kerbstonelaw06.RulesTexts'. -/
def rulesTextsUptoCard : Claim7 := { stood := { row := rulesTextsUptoRow, standIns := [], harness := (true, "ef0a82f29212a913c64709caee180acc097113bbec02f092150fabd23ccf96df"), looks := true }, kinds := [], alts := [], laidByText := true, laidKinds := [.data, .data, .data, .sentinel, .sentinel], laidTests := true, laidLooks := .later }
def RulesTextsUptoCardSaid : Prop := Claim7.holds Tryd.pinned (.plain (OpenSpec.upto rulesTextsSpec)) rulesTextsUptoCard

/-- THE SECOND FORM's CARD OF 'kerbstonelaw06.RulesBack'. -/
def rulesBackUptoCard : Claim7 := { stood := { row := rulesBackUptoRow, standIns := [], harness := (true, "ef0a82f29212a913c64709caee180acc097113bbec02f092150fabd23ccf96df"), looks := true }, kinds := [], alts := [], laidByText := true, laidKinds := [.data, .data, .data, .sentinel, .sentinel], laidTests := true, laidLooks := .later }
def RulesBackUptoCardSaid : Prop := Claim7.holds Tryd.pinned (.plain (OpenSpec.upto rulesBackSpec)) rulesBackUptoCard

/-- THE SECOND FORM's CARD OF 'kerbstonelaw06.RulesOnline'. -/
def rulesOnlineUptoCard : Claim7 := { stood := { row := rulesOnlineUptoRow, standIns := [], harness := (true, "ef0a82f29212a913c64709caee180acc097113bbec02f092150fabd23ccf96df"), looks := true }, kinds := [], alts := [], laidByText := true, laidKinds := [.data, .data, .data, .sentinel, .sentinel], laidTests := true, laidLooks := .later }
def RulesOnlineUptoCardSaid : Prop := Claim7.holds Tryd.pinned (.plain (OpenSpec.upto rulesOnlineSpec)) rulesOnlineUptoCard

/-- THE SECOND FORM's CARD OF 'kerbstonelaw06.RulesOrder'. -/
def rulesOrderUptoCard : Claim7 := { stood := { row := rulesOrderUptoRow, standIns := [], harness := (true, "ef0a82f29212a913c64709caee180acc097113bbec02f092150fabd23ccf96df"), looks := true }, kinds := [], alts := [], laidByText := true, laidKinds := [.data, .data, .data, .sentinel, .sentinel], laidTests := true, laidLooks := .later }
def RulesOrderUptoCardSaid : Prop := Claim7.holds Tryd.pinned (.plain (OpenSpec.upto rulesOrderSpec)) rulesOrderUptoCard
end Rows
end Go.Proofs.YtlimahhonfckdaaDoor
