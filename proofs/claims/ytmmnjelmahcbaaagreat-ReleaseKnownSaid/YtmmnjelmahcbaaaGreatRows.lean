/-
  No cell of these rows narrows 'for every input' (looked for: loops, veiled, ifaces, maps, wideKeys, modest, calm, conditions, laid).
  DERIVED. THE GIVEN ROWS OF THIS SEAT. 4 by the template 'for every input the law returns true; each argument reads behind the call as it read before'; 0 by the template 'total and deterministic' (their statements: YtmmnjelmahcbaaaGreatTotals.lean).
  GIVEN WITH THE SEED: the statements are not yours to turn. If you find one false, say at which input.
  Laid BY PROGRAM, IN A SANDBOX (cutbox-rows.mjs): the forced cells as the released guide's own fill.sh prints them over the translation 201239f8845a1a0f… (all of the seat's roots in one cut). By AI agents, Wed Nov 11 2026. No macro, syntax, notation, axiom, sorry.
-/
import Derived.Test.YtmmnjelmahcbaaaGreatChecked
import GoSem.Claim
import GoSem.ClaimJoined
import GoSem.ClaimMapViews
import Derived.JoinedTies
import Derived.KernelRfl
namespace Go.Proofs.YtmmnjelmahcbaaaGreat
/- THE CELL 'sum', in the pinned program and in every row, IS THE sha256 OF THE DUMP (.gsa) THAT YtmmnjelmahcbaaaGreatProg.lean LOADS. Nothing in Lean hashes anything: it is a label: what it is worth is what the hold of that sum in a sandbox is worth. -/
noncomputable def Tryz.pinned : Pinned := { name := "ytmmnjelmahcbaaagreat", sum := "201239f8845a1a0fb2022049e3f607f78b16bd7878cd28c5123b2dfd7d51454d", checked := Tryz.checked }
namespace Rows
def none {H : Type} : Left H := { results := [], args := [] }

/-- 'kerbstonelaw11.ReleaseChecks': WHATEVER THE INPUT: true; the input reads as it did. -/
def releaseChecksSpec : ChangeSpec := { name := "releaseChecks", fn := fun _ => fun
  | [d1, d2, d3] => { results := [.lit (.bool true)], args := [d1, d2, d3] }
  | _ => none }
def releaseChecksRow : OpenClaim := { program := "ytmmnjelmahcbaaagreat", sum := "201239f8845a1a0fb2022049e3f607f78b16bd7878cd28c5123b2dfd7d51454d", func := "kerbstone/kerbstonelaw11.ReleaseChecks", spec := "releaseChecks", inPlace := ["math/bits.Add64", "math/bits.Sub64"], unfollowed := true, recurses := true, apart := false }
def ReleaseChecksSaid : Prop := releaseChecksRow.holds Tryz.pinned (OpenSpec.ofChange releaseChecksSpec)

/-- ITS FALSE NEIGHBOUR: 'it returns false'. Refute it at one input. -/
def releaseChecksWrong : ChangeSpec := { name := "releaseChecks", fn := fun _ => fun
  | [d1, d2, d3] => { results := [.lit (.bool false)], args := [d1, d2, d3] }
  | _ => none }
def ReleaseChecksWrongFalsely : Prop := releaseChecksRow.holds Tryz.pinned (OpenSpec.ofChange releaseChecksWrong)

/-- 'kerbstonelaw11.ReleaseReports': WHATEVER THE INPUT: true; the input reads as it did. -/
def releaseReportsSpec : ChangeSpec := { name := "releaseReports", fn := fun _ => fun
  | [d1, d2, d3] => { results := [.lit (.bool true)], args := [d1, d2, d3] }
  | _ => none }
def releaseReportsRow : OpenClaim := { program := "ytmmnjelmahcbaaagreat", sum := "201239f8845a1a0fb2022049e3f607f78b16bd7878cd28c5123b2dfd7d51454d", func := "kerbstone/kerbstonelaw11.ReleaseReports", spec := "releaseReports", inPlace := ["math/bits.Add64", "math/bits.Sub64"], unfollowed := true, recurses := true, apart := false }
def ReleaseReportsSaid : Prop := releaseReportsRow.holds Tryz.pinned (OpenSpec.ofChange releaseReportsSpec)

/-- ITS FALSE NEIGHBOUR: 'it returns false'. Refute it at one input. -/
def releaseReportsWrong : ChangeSpec := { name := "releaseReports", fn := fun _ => fun
  | [d1, d2, d3] => { results := [.lit (.bool false)], args := [d1, d2, d3] }
  | _ => none }
def ReleaseReportsWrongFalsely : Prop := releaseReportsRow.holds Tryz.pinned (OpenSpec.ofChange releaseReportsWrong)

/-- 'kerbstonelaw11.ReleaseOrderly': WHATEVER THE INPUT: true; the input reads as it did. -/
def releaseOrderlySpec : ChangeSpec := { name := "releaseOrderly", fn := fun _ => fun
  | [d1, d2, d3] => { results := [.lit (.bool true)], args := [d1, d2, d3] }
  | _ => none }
def releaseOrderlyRow : OpenClaim := { program := "ytmmnjelmahcbaaagreat", sum := "201239f8845a1a0fb2022049e3f607f78b16bd7878cd28c5123b2dfd7d51454d", func := "kerbstone/kerbstonelaw11.ReleaseOrderly", spec := "releaseOrderly", inPlace := ["math/bits.Add64", "math/bits.Sub64"], unfollowed := true, recurses := true, apart := false }
def ReleaseOrderlySaid : Prop := releaseOrderlyRow.holds Tryz.pinned (OpenSpec.ofChange releaseOrderlySpec)

/-- ITS FALSE NEIGHBOUR: 'it returns false'. Refute it at one input. -/
def releaseOrderlyWrong : ChangeSpec := { name := "releaseOrderly", fn := fun _ => fun
  | [d1, d2, d3] => { results := [.lit (.bool false)], args := [d1, d2, d3] }
  | _ => none }
def ReleaseOrderlyWrongFalsely : Prop := releaseOrderlyRow.holds Tryz.pinned (OpenSpec.ofChange releaseOrderlyWrong)

/-- 'kerbstonelaw11.ReleaseKnown': WHATEVER THE INPUT: true; the input reads as it did. -/
def releaseKnownSpec : ChangeSpec := { name := "releaseKnown", fn := fun _ => fun
  | [] => { results := [.lit (.bool true)], args := [] }
  | _ => none }
def releaseKnownRow : OpenClaim := { program := "ytmmnjelmahcbaaagreat", sum := "201239f8845a1a0fb2022049e3f607f78b16bd7878cd28c5123b2dfd7d51454d", func := "kerbstone/kerbstonelaw11.ReleaseKnown", spec := "releaseKnown", inPlace := ["math/bits.Add64", "math/bits.Sub64"], unfollowed := true, recurses := true, apart := false }
def ReleaseKnownSaid : Prop := releaseKnownRow.holds Tryz.pinned (OpenSpec.ofChange releaseKnownSpec)

/-- ITS FALSE NEIGHBOUR: 'it returns false'. Refute it at one input. -/
def releaseKnownWrong : ChangeSpec := { name := "releaseKnown", fn := fun _ => fun
  | [] => { results := [.lit (.bool false)], args := [] }
  | _ => none }
def ReleaseKnownWrongFalsely : Prop := releaseKnownRow.holds Tryz.pinned (OpenSpec.ofChange releaseKnownWrong)

/- THE SECOND FORM. 'bulk': how many values and letters a reading holds, each counted each time it is reached (what is shared counts as often as it is met; a slice's spare places count too). A statement '..UptoSaid' is the law's where the arguments, and the package variables that the reading takes, are together of bulk at most 1048576: NARROWER than '..Said'. Prove '..Said' where nothing that the law and all that it calls make is longer than what came in: it says more and counts as full. Else prove '..UptoSaid'. A law counts once. -/
mutual
def uptoBulk {H : Type} : DataW H → Nat
  | .lit (.string bytes) => bytes.length + 1
  | .lit _ => 1
  | .nil => 1
  | .ptr d => uptoBulk d + 1
  | .slice elems spare => uptoBulkAll elems + uptoBulkAll spare + 1
  | .agg parts => uptoBulkAll parts + 1
  | .iface _ d => uptoBulk d + 1
  | .map entries => uptoBulkEntries entries + 1
  | .held _ => 1
def uptoBulkAll {H : Type} : List (DataW H) → Nat
  | [] => 0
  | d :: r => uptoBulk d + uptoBulkAll r
def uptoBulkEntries {H : Type} : List (Lit × DataW H) → Nat
  | [] => 0
  | x :: r => uptoBulkEntry x + uptoBulkEntries r
def uptoBulkEntry {H : Type} : Lit × DataW H → Nat
  | (.string bytes, d) => bytes.length + uptoBulk d + 1
  | (_, d) => uptoBulk d + 1
 end
def uptoSmall : (H : Type) → List (DataW H) → Bool := fun _ ds => decide (uptoBulkAll ds ≤ 1048576)
def OpenSpec.upto (s : _root_.Go.ChangeSpec) : _root_.Go.OpenSpec := { _root_.Go.OpenSpec.ofChange s with cond := some uptoSmall }

/-- 'kerbstonelaw11.ReleaseChecks', WHERE WHAT IT READS IS OF BULK AT MOST 1048576: true; the input reads as it did. -/
def releaseChecksUptoRow : OpenClaim := { program := "ytmmnjelmahcbaaagreat", sum := "201239f8845a1a0fb2022049e3f607f78b16bd7878cd28c5123b2dfd7d51454d", func := "kerbstone/kerbstonelaw11.ReleaseChecks", spec := "releaseChecks", inPlace := ["math/bits.Add64", "math/bits.Sub64"], unfollowed := true, recurses := true, apart := false, narrowed := true }
def ReleaseChecksUptoSaid : Prop := releaseChecksUptoRow.holds Tryz.pinned (OpenSpec.upto releaseChecksSpec)

/-- 'kerbstonelaw11.ReleaseReports', WHERE WHAT IT READS IS OF BULK AT MOST 1048576: true; the input reads as it did. -/
def releaseReportsUptoRow : OpenClaim := { program := "ytmmnjelmahcbaaagreat", sum := "201239f8845a1a0fb2022049e3f607f78b16bd7878cd28c5123b2dfd7d51454d", func := "kerbstone/kerbstonelaw11.ReleaseReports", spec := "releaseReports", inPlace := ["math/bits.Add64", "math/bits.Sub64"], unfollowed := true, recurses := true, apart := false, narrowed := true }
def ReleaseReportsUptoSaid : Prop := releaseReportsUptoRow.holds Tryz.pinned (OpenSpec.upto releaseReportsSpec)

/-- 'kerbstonelaw11.ReleaseOrderly', WHERE WHAT IT READS IS OF BULK AT MOST 1048576: true; the input reads as it did. -/
def releaseOrderlyUptoRow : OpenClaim := { program := "ytmmnjelmahcbaaagreat", sum := "201239f8845a1a0fb2022049e3f607f78b16bd7878cd28c5123b2dfd7d51454d", func := "kerbstone/kerbstonelaw11.ReleaseOrderly", spec := "releaseOrderly", inPlace := ["math/bits.Add64", "math/bits.Sub64"], unfollowed := true, recurses := true, apart := false, narrowed := true }
def ReleaseOrderlyUptoSaid : Prop := releaseOrderlyUptoRow.holds Tryz.pinned (OpenSpec.upto releaseOrderlySpec)

/-- 'kerbstonelaw11.ReleaseKnown', WHERE WHAT IT READS IS OF BULK AT MOST 1048576: true; the input reads as it did. -/
def releaseKnownUptoRow : OpenClaim := { program := "ytmmnjelmahcbaaagreat", sum := "201239f8845a1a0fb2022049e3f607f78b16bd7878cd28c5123b2dfd7d51454d", func := "kerbstone/kerbstonelaw11.ReleaseKnown", spec := "releaseKnown", inPlace := ["math/bits.Add64", "math/bits.Sub64"], unfollowed := true, recurses := true, apart := false, narrowed := true }
def ReleaseKnownUptoSaid : Prop := releaseKnownUptoRow.holds Tryz.pinned (OpenSpec.upto releaseKnownSpec)

end Rows
end Go.Proofs.YtmmnjelmahcbaaaGreat
