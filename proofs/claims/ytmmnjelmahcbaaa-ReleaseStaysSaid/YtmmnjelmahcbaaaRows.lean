/-
  No cell of these rows narrows 'for every input' (looked for: loops, veiled, ifaces, maps, wideKeys, modest, calm, conditions, laid).
  DERIVED. THE GIVEN ROWS OF THIS SEAT. 12 by the template 'for every input the law returns true; each argument reads behind the call as it read before'; 0 by the template 'total and deterministic' (their statements: YtmmnjelmahcbaaaTotals.lean).
  GIVEN WITH THE SEED: the statements are not yours to turn. If you find one false, say at which input.
  Laid BY PROGRAM, IN A SANDBOX (cutbox-rows.mjs): the forced cells as the released guide's own fill.sh prints them over the translation 034235d48169cc55… (all of the seat's roots in one cut). By AI agents, Wed Nov 11 2026. No macro, syntax, notation, axiom, sorry.
-/
import Derived.Test.YtmmnjelmahcbaaaChecked
import GoSem.Claim
import GoSem.ClaimJoined
import GoSem.ClaimMapViews
import Derived.JoinedTies
import Derived.KernelRfl
namespace Go.Proofs.Ytmmnjelmahcbaaa
/- THE CELL 'sum', in the pinned program and in every row, IS THE sha256 OF THE DUMP (.gsa) THAT YtmmnjelmahcbaaaProg.lean LOADS. Nothing in Lean hashes anything: it is a label: what it is worth is what the hold of that sum in a sandbox is worth. -/
noncomputable def Try.pinned : Pinned := { name := "ytmmnjelmahcbaaa", sum := "034235d48169cc55f6cb09706d328ee466286fcbf97e9e635d4f56c13e2a7954", checked := Try.checked }
namespace Rows
def none {H : Type} : Left H := { results := [], args := [] }

/-- 'kerbstonelaw11.ReleaseTails': WHATEVER THE INPUT: true; the input reads as it did. -/
def releaseTailsSpec : ChangeSpec := { name := "releaseTails", fn := fun _ => fun
  | [d1, d2, d3, d4] => { results := [.lit (.bool true)], args := [d1, d2, d3, d4] }
  | _ => none }
def releaseTailsRow : OpenClaim := { program := "ytmmnjelmahcbaaa", sum := "034235d48169cc55f6cb09706d328ee466286fcbf97e9e635d4f56c13e2a7954", func := "kerbstone/kerbstonelaw11.ReleaseTails", spec := "releaseTails", inPlace := ["math/bits.Add64", "math/bits.Sub64"], unfollowed := true, recurses := true, apart := false }
def ReleaseTailsSaid : Prop := releaseTailsRow.holds Try.pinned (OpenSpec.ofChange releaseTailsSpec)

/-- ITS FALSE NEIGHBOUR: 'it returns false'. Refute it at one input. -/
def releaseTailsWrong : ChangeSpec := { name := "releaseTails", fn := fun _ => fun
  | [d1, d2, d3, d4] => { results := [.lit (.bool false)], args := [d1, d2, d3, d4] }
  | _ => none }
def ReleaseTailsWrongFalsely : Prop := releaseTailsRow.holds Try.pinned (OpenSpec.ofChange releaseTailsWrong)

/-- 'kerbstonelaw11.ReleaseErrors': WHATEVER THE INPUT: true; the input reads as it did. -/
def releaseErrorsSpec : ChangeSpec := { name := "releaseErrors", fn := fun _ => fun
  | [d1, d2, d3, d4, d5] => { results := [.lit (.bool true)], args := [d1, d2, d3, d4, d5] }
  | _ => none }
def releaseErrorsRow : OpenClaim := { program := "ytmmnjelmahcbaaa", sum := "034235d48169cc55f6cb09706d328ee466286fcbf97e9e635d4f56c13e2a7954", func := "kerbstone/kerbstonelaw11.ReleaseErrors", spec := "releaseErrors", inPlace := ["math/bits.Add64", "math/bits.Sub64"], unfollowed := true, recurses := true, apart := false }
def ReleaseErrorsSaid : Prop := releaseErrorsRow.holds Try.pinned (OpenSpec.ofChange releaseErrorsSpec)

/-- ITS FALSE NEIGHBOUR: 'it returns false'. Refute it at one input. -/
def releaseErrorsWrong : ChangeSpec := { name := "releaseErrors", fn := fun _ => fun
  | [d1, d2, d3, d4, d5] => { results := [.lit (.bool false)], args := [d1, d2, d3, d4, d5] }
  | _ => none }
def ReleaseErrorsWrongFalsely : Prop := releaseErrorsRow.holds Try.pinned (OpenSpec.ofChange releaseErrorsWrong)

/-- 'kerbstonelaw11.ReleaseNeither': WHATEVER THE INPUT: true; the input reads as it did. -/
def releaseNeitherSpec : ChangeSpec := { name := "releaseNeither", fn := fun _ => fun
  | [d1, d2, d3, d4, d5] => { results := [.lit (.bool true)], args := [d1, d2, d3, d4, d5] }
  | _ => none }
def releaseNeitherRow : OpenClaim := { program := "ytmmnjelmahcbaaa", sum := "034235d48169cc55f6cb09706d328ee466286fcbf97e9e635d4f56c13e2a7954", func := "kerbstone/kerbstonelaw11.ReleaseNeither", spec := "releaseNeither", inPlace := ["math/bits.Add64", "math/bits.Sub64"], unfollowed := true, recurses := true, apart := false }
def ReleaseNeitherSaid : Prop := releaseNeitherRow.holds Try.pinned (OpenSpec.ofChange releaseNeitherSpec)

/-- ITS FALSE NEIGHBOUR: 'it returns false'. Refute it at one input. -/
def releaseNeitherWrong : ChangeSpec := { name := "releaseNeither", fn := fun _ => fun
  | [d1, d2, d3, d4, d5] => { results := [.lit (.bool false)], args := [d1, d2, d3, d4, d5] }
  | _ => none }
def ReleaseNeitherWrongFalsely : Prop := releaseNeitherRow.holds Try.pinned (OpenSpec.ofChange releaseNeitherWrong)

/-- 'kerbstonelaw11.ReleaseSums': WHATEVER THE INPUT: true; the input reads as it did. -/
def releaseSumsSpec : ChangeSpec := { name := "releaseSums", fn := fun _ => fun
  | [d1, d2, d3, d4, d5, d6] => { results := [.lit (.bool true)], args := [d1, d2, d3, d4, d5, d6] }
  | _ => none }
def releaseSumsRow : OpenClaim := { program := "ytmmnjelmahcbaaa", sum := "034235d48169cc55f6cb09706d328ee466286fcbf97e9e635d4f56c13e2a7954", func := "kerbstone/kerbstonelaw11.ReleaseSums", spec := "releaseSums", inPlace := ["math/bits.Add64", "math/bits.Sub64"], unfollowed := true, recurses := true, apart := false }
def ReleaseSumsSaid : Prop := releaseSumsRow.holds Try.pinned (OpenSpec.ofChange releaseSumsSpec)

/-- ITS FALSE NEIGHBOUR: 'it returns false'. Refute it at one input. -/
def releaseSumsWrong : ChangeSpec := { name := "releaseSums", fn := fun _ => fun
  | [d1, d2, d3, d4, d5, d6] => { results := [.lit (.bool false)], args := [d1, d2, d3, d4, d5, d6] }
  | _ => none }
def ReleaseSumsWrongFalsely : Prop := releaseSumsRow.holds Try.pinned (OpenSpec.ofChange releaseSumsWrong)

/-- 'kerbstonelaw11.ReleaseShows': WHATEVER THE INPUT: true; the input reads as it did. -/
def releaseShowsSpec : ChangeSpec := { name := "releaseShows", fn := fun _ => fun
  | [d1, d2, d3, d4] => { results := [.lit (.bool true)], args := [d1, d2, d3, d4] }
  | _ => none }
def releaseShowsRow : OpenClaim := { program := "ytmmnjelmahcbaaa", sum := "034235d48169cc55f6cb09706d328ee466286fcbf97e9e635d4f56c13e2a7954", func := "kerbstone/kerbstonelaw11.ReleaseShows", spec := "releaseShows", inPlace := ["math/bits.Add64", "math/bits.Sub64"], unfollowed := true, recurses := true, apart := false }
def ReleaseShowsSaid : Prop := releaseShowsRow.holds Try.pinned (OpenSpec.ofChange releaseShowsSpec)

/-- ITS FALSE NEIGHBOUR: 'it returns false'. Refute it at one input. -/
def releaseShowsWrong : ChangeSpec := { name := "releaseShows", fn := fun _ => fun
  | [d1, d2, d3, d4] => { results := [.lit (.bool false)], args := [d1, d2, d3, d4] }
  | _ => none }
def ReleaseShowsWrongFalsely : Prop := releaseShowsRow.holds Try.pinned (OpenSpec.ofChange releaseShowsWrong)

/-- 'kerbstonelaw11.ReleaseCompares': WHATEVER THE INPUT: true; the input reads as it did. -/
def releaseComparesSpec : ChangeSpec := { name := "releaseCompares", fn := fun _ => fun
  | [d1, d2, d3, d4, d5, d6] => { results := [.lit (.bool true)], args := [d1, d2, d3, d4, d5, d6] }
  | _ => none }
def releaseComparesRow : OpenClaim := { program := "ytmmnjelmahcbaaa", sum := "034235d48169cc55f6cb09706d328ee466286fcbf97e9e635d4f56c13e2a7954", func := "kerbstone/kerbstonelaw11.ReleaseCompares", spec := "releaseCompares", inPlace := ["math/bits.Add64", "math/bits.Sub64"], unfollowed := true, recurses := true, apart := false }
def ReleaseComparesSaid : Prop := releaseComparesRow.holds Try.pinned (OpenSpec.ofChange releaseComparesSpec)

/-- ITS FALSE NEIGHBOUR: 'it returns false'. Refute it at one input. -/
def releaseComparesWrong : ChangeSpec := { name := "releaseCompares", fn := fun _ => fun
  | [d1, d2, d3, d4, d5, d6] => { results := [.lit (.bool false)], args := [d1, d2, d3, d4, d5, d6] }
  | _ => none }
def ReleaseComparesWrongFalsely : Prop := releaseComparesRow.holds Try.pinned (OpenSpec.ofChange releaseComparesWrong)

/-- 'kerbstonelaw11.ReleaseMore': WHATEVER THE INPUT: true; the input reads as it did. -/
def releaseMoreSpec : ChangeSpec := { name := "releaseMore", fn := fun _ => fun
  | [d1, d2, d3, d4, d5, d6, d7] => { results := [.lit (.bool true)], args := [d1, d2, d3, d4, d5, d6, d7] }
  | _ => none }
def releaseMoreRow : OpenClaim := { program := "ytmmnjelmahcbaaa", sum := "034235d48169cc55f6cb09706d328ee466286fcbf97e9e635d4f56c13e2a7954", func := "kerbstone/kerbstonelaw11.ReleaseMore", spec := "releaseMore", inPlace := ["math/bits.Add64", "math/bits.Sub64"], unfollowed := true, recurses := true, apart := false }
def ReleaseMoreSaid : Prop := releaseMoreRow.holds Try.pinned (OpenSpec.ofChange releaseMoreSpec)

/-- ITS FALSE NEIGHBOUR: 'it returns false'. Refute it at one input. -/
def releaseMoreWrong : ChangeSpec := { name := "releaseMore", fn := fun _ => fun
  | [d1, d2, d3, d4, d5, d6, d7] => { results := [.lit (.bool false)], args := [d1, d2, d3, d4, d5, d6, d7] }
  | _ => none }
def ReleaseMoreWrongFalsely : Prop := releaseMoreRow.holds Try.pinned (OpenSpec.ofChange releaseMoreWrong)

/-- 'kerbstonelaw11.ReleaseLearns': WHATEVER THE INPUT: true; the input reads as it did. -/
def releaseLearnsSpec : ChangeSpec := { name := "releaseLearns", fn := fun _ => fun
  | [d1, d2, d3] => { results := [.lit (.bool true)], args := [d1, d2, d3] }
  | _ => none }
def releaseLearnsRow : OpenClaim := { program := "ytmmnjelmahcbaaa", sum := "034235d48169cc55f6cb09706d328ee466286fcbf97e9e635d4f56c13e2a7954", func := "kerbstone/kerbstonelaw11.ReleaseLearns", spec := "releaseLearns", inPlace := ["math/bits.Add64", "math/bits.Sub64"], unfollowed := true, recurses := true, apart := false }
def ReleaseLearnsSaid : Prop := releaseLearnsRow.holds Try.pinned (OpenSpec.ofChange releaseLearnsSpec)

/-- ITS FALSE NEIGHBOUR: 'it returns false'. Refute it at one input. -/
def releaseLearnsWrong : ChangeSpec := { name := "releaseLearns", fn := fun _ => fun
  | [d1, d2, d3] => { results := [.lit (.bool false)], args := [d1, d2, d3] }
  | _ => none }
def ReleaseLearnsWrongFalsely : Prop := releaseLearnsRow.holds Try.pinned (OpenSpec.ofChange releaseLearnsWrong)

/-- 'kerbstonelaw11.ReleaseSample': WHATEVER THE INPUT: true; the input reads as it did. -/
def releaseSampleSpec : ChangeSpec := { name := "releaseSample", fn := fun _ => fun
  | [d1, d2, d3, d4] => { results := [.lit (.bool true)], args := [d1, d2, d3, d4] }
  | _ => none }
def releaseSampleRow : OpenClaim := { program := "ytmmnjelmahcbaaa", sum := "034235d48169cc55f6cb09706d328ee466286fcbf97e9e635d4f56c13e2a7954", func := "kerbstone/kerbstonelaw11.ReleaseSample", spec := "releaseSample", inPlace := ["math/bits.Add64", "math/bits.Sub64"], unfollowed := true, recurses := true, apart := false }
def ReleaseSampleSaid : Prop := releaseSampleRow.holds Try.pinned (OpenSpec.ofChange releaseSampleSpec)

/-- ITS FALSE NEIGHBOUR: 'it returns false'. Refute it at one input. -/
def releaseSampleWrong : ChangeSpec := { name := "releaseSample", fn := fun _ => fun
  | [d1, d2, d3, d4] => { results := [.lit (.bool false)], args := [d1, d2, d3, d4] }
  | _ => none }
def ReleaseSampleWrongFalsely : Prop := releaseSampleRow.holds Try.pinned (OpenSpec.ofChange releaseSampleWrong)

/-- 'kerbstonelaw11.ReleaseOrders': WHATEVER THE INPUT: true; the input reads as it did. -/
def releaseOrdersSpec : ChangeSpec := { name := "releaseOrders", fn := fun _ => fun
  | [d1, d2, d3] => { results := [.lit (.bool true)], args := [d1, d2, d3] }
  | _ => none }
def releaseOrdersRow : OpenClaim := { program := "ytmmnjelmahcbaaa", sum := "034235d48169cc55f6cb09706d328ee466286fcbf97e9e635d4f56c13e2a7954", func := "kerbstone/kerbstonelaw11.ReleaseOrders", spec := "releaseOrders", inPlace := ["math/bits.Add64", "math/bits.Sub64"], unfollowed := true, recurses := true, apart := false }
def ReleaseOrdersSaid : Prop := releaseOrdersRow.holds Try.pinned (OpenSpec.ofChange releaseOrdersSpec)

/-- ITS FALSE NEIGHBOUR: 'it returns false'. Refute it at one input. -/
def releaseOrdersWrong : ChangeSpec := { name := "releaseOrders", fn := fun _ => fun
  | [d1, d2, d3] => { results := [.lit (.bool false)], args := [d1, d2, d3] }
  | _ => none }
def ReleaseOrdersWrongFalsely : Prop := releaseOrdersRow.holds Try.pinned (OpenSpec.ofChange releaseOrdersWrong)

/-- 'kerbstonelaw11.ReleaseShares': WHATEVER THE INPUT: true; the input reads as it did. -/
def releaseSharesSpec : ChangeSpec := { name := "releaseShares", fn := fun _ => fun
  | [d1, d2, d3, d4, d5] => { results := [.lit (.bool true)], args := [d1, d2, d3, d4, d5] }
  | _ => none }
def releaseSharesRow : OpenClaim := { program := "ytmmnjelmahcbaaa", sum := "034235d48169cc55f6cb09706d328ee466286fcbf97e9e635d4f56c13e2a7954", func := "kerbstone/kerbstonelaw11.ReleaseShares", spec := "releaseShares", inPlace := ["math/bits.Add64", "math/bits.Sub64"], unfollowed := true, recurses := true, apart := false }
def ReleaseSharesSaid : Prop := releaseSharesRow.holds Try.pinned (OpenSpec.ofChange releaseSharesSpec)

/-- ITS FALSE NEIGHBOUR: 'it returns false'. Refute it at one input. -/
def releaseSharesWrong : ChangeSpec := { name := "releaseShares", fn := fun _ => fun
  | [d1, d2, d3, d4, d5] => { results := [.lit (.bool false)], args := [d1, d2, d3, d4, d5] }
  | _ => none }
def ReleaseSharesWrongFalsely : Prop := releaseSharesRow.holds Try.pinned (OpenSpec.ofChange releaseSharesWrong)

/-- 'kerbstonelaw11.ReleaseStays': WHATEVER THE INPUT: true; the input reads as it did. -/
def releaseStaysSpec : ChangeSpec := { name := "releaseStays", fn := fun _ => fun
  | [d1, d2, d3] => { results := [.lit (.bool true)], args := [d1, d2, d3] }
  | _ => none }
def releaseStaysRow : OpenClaim := { program := "ytmmnjelmahcbaaa", sum := "034235d48169cc55f6cb09706d328ee466286fcbf97e9e635d4f56c13e2a7954", func := "kerbstone/kerbstonelaw11.ReleaseStays", spec := "releaseStays", inPlace := ["math/bits.Add64", "math/bits.Sub64"], unfollowed := true, recurses := true, apart := false }
def ReleaseStaysSaid : Prop := releaseStaysRow.holds Try.pinned (OpenSpec.ofChange releaseStaysSpec)

/-- ITS FALSE NEIGHBOUR: 'it returns false'. Refute it at one input. -/
def releaseStaysWrong : ChangeSpec := { name := "releaseStays", fn := fun _ => fun
  | [d1, d2, d3] => { results := [.lit (.bool false)], args := [d1, d2, d3] }
  | _ => none }
def ReleaseStaysWrongFalsely : Prop := releaseStaysRow.holds Try.pinned (OpenSpec.ofChange releaseStaysWrong)

/- THE SECOND FORM. 'bulk': how many values and letters a reading holds, each counted each time it is reached (what is shared counts as often as it is met; a slice's spare places count too). A statement '..UptoSaid' is the law's where the arguments, and the package variables that the reading takes, are together of bulk at most 1048576: NARROWER than '..Said'. Prove '..Said' where nothing that the law and all that it calls make is longer than what came in: it says more and counts as full. Else prove '..UptoSaid'. A law counts once. -/
mutual
def uptoBulk {H : Type} : DataW H → Nat
  | .lit (.string bytes) => bytes.length + 1
  | .lit _ => 1
  | .nil => 1
  | .ptr d => uptoBulk d + 1
  | .slice elems spare => uptoBulkAll elems + uptoBulkAll spare + 1
  | .agg parts => uptoBulkAll parts + 1
  | .iface _ d => uptoBulk d + 1
  | .map entries => uptoBulkEntries entries + 1
  | .held _ => 1
def uptoBulkAll {H : Type} : List (DataW H) → Nat
  | [] => 0
  | d :: r => uptoBulk d + uptoBulkAll r
def uptoBulkEntries {H : Type} : List (Lit × DataW H) → Nat
  | [] => 0
  | x :: r => uptoBulkEntry x + uptoBulkEntries r
def uptoBulkEntry {H : Type} : Lit × DataW H → Nat
  | (.string bytes, d) => bytes.length + uptoBulk d + 1
  | (_, d) => uptoBulk d + 1
 end
def uptoSmall : (H : Type) → List (DataW H) → Bool := fun _ ds => decide (uptoBulkAll ds ≤ 1048576)
def OpenSpec.upto (s : _root_.Go.ChangeSpec) : _root_.Go.OpenSpec := { _root_.Go.OpenSpec.ofChange s with cond := some uptoSmall }

/-- 'kerbstonelaw11.ReleaseTails', WHERE WHAT IT READS IS OF BULK AT MOST 1048576: true; the input reads as it did. -/
def releaseTailsUptoRow : OpenClaim := { program := "ytmmnjelmahcbaaa", sum := "034235d48169cc55f6cb09706d328ee466286fcbf97e9e635d4f56c13e2a7954", func := "kerbstone/kerbstonelaw11.ReleaseTails", spec := "releaseTails", inPlace := ["math/bits.Add64", "math/bits.Sub64"], unfollowed := true, recurses := true, apart := false, narrowed := true }
def ReleaseTailsUptoSaid : Prop := releaseTailsUptoRow.holds Try.pinned (OpenSpec.upto releaseTailsSpec)

/-- 'kerbstonelaw11.ReleaseErrors', WHERE WHAT IT READS IS OF BULK AT MOST 1048576: true; the input reads as it did. -/
def releaseErrorsUptoRow : OpenClaim := { program := "ytmmnjelmahcbaaa", sum := "034235d48169cc55f6cb09706d328ee466286fcbf97e9e635d4f56c13e2a7954", func := "kerbstone/kerbstonelaw11.ReleaseErrors", spec := "releaseErrors", inPlace := ["math/bits.Add64", "math/bits.Sub64"], unfollowed := true, recurses := true, apart := false, narrowed := true }
def ReleaseErrorsUptoSaid : Prop := releaseErrorsUptoRow.holds Try.pinned (OpenSpec.upto releaseErrorsSpec)

/-- 'kerbstonelaw11.ReleaseNeither', WHERE WHAT IT READS IS OF BULK AT MOST 1048576: true; the input reads as it did. -/
def releaseNeitherUptoRow : OpenClaim := { program := "ytmmnjelmahcbaaa", sum := "034235d48169cc55f6cb09706d328ee466286fcbf97e9e635d4f56c13e2a7954", func := "kerbstone/kerbstonelaw11.ReleaseNeither", spec := "releaseNeither", inPlace := ["math/bits.Add64", "math/bits.Sub64"], unfollowed := true, recurses := true, apart := false, narrowed := true }
def ReleaseNeitherUptoSaid : Prop := releaseNeitherUptoRow.holds Try.pinned (OpenSpec.upto releaseNeitherSpec)

/-- 'kerbstonelaw11.ReleaseSums', WHERE WHAT IT READS IS OF BULK AT MOST 1048576: true; the input reads as it did. -/
def releaseSumsUptoRow : OpenClaim := { program := "ytmmnjelmahcbaaa", sum := "034235d48169cc55f6cb09706d328ee466286fcbf97e9e635d4f56c13e2a7954", func := "kerbstone/kerbstonelaw11.ReleaseSums", spec := "releaseSums", inPlace := ["math/bits.Add64", "math/bits.Sub64"], unfollowed := true, recurses := true, apart := false, narrowed := true }
def ReleaseSumsUptoSaid : Prop := releaseSumsUptoRow.holds Try.pinned (OpenSpec.upto releaseSumsSpec)

/-- 'kerbstonelaw11.ReleaseShows', WHERE WHAT IT READS IS OF BULK AT MOST 1048576: true; the input reads as it did. -/
def releaseShowsUptoRow : OpenClaim := { program := "ytmmnjelmahcbaaa", sum := "034235d48169cc55f6cb09706d328ee466286fcbf97e9e635d4f56c13e2a7954", func := "kerbstone/kerbstonelaw11.ReleaseShows", spec := "releaseShows", inPlace := ["math/bits.Add64", "math/bits.Sub64"], unfollowed := true, recurses := true, apart := false, narrowed := true }
def ReleaseShowsUptoSaid : Prop := releaseShowsUptoRow.holds Try.pinned (OpenSpec.upto releaseShowsSpec)

/-- 'kerbstonelaw11.ReleaseCompares', WHERE WHAT IT READS IS OF BULK AT MOST 1048576: true; the input reads as it did. -/
def releaseComparesUptoRow : OpenClaim := { program := "ytmmnjelmahcbaaa", sum := "034235d48169cc55f6cb09706d328ee466286fcbf97e9e635d4f56c13e2a7954", func := "kerbstone/kerbstonelaw11.ReleaseCompares", spec := "releaseCompares", inPlace := ["math/bits.Add64", "math/bits.Sub64"], unfollowed := true, recurses := true, apart := false, narrowed := true }
def ReleaseComparesUptoSaid : Prop := releaseComparesUptoRow.holds Try.pinned (OpenSpec.upto releaseComparesSpec)

/-- 'kerbstonelaw11.ReleaseMore', WHERE WHAT IT READS IS OF BULK AT MOST 1048576: true; the input reads as it did. -/
def releaseMoreUptoRow : OpenClaim := { program := "ytmmnjelmahcbaaa", sum := "034235d48169cc55f6cb09706d328ee466286fcbf97e9e635d4f56c13e2a7954", func := "kerbstone/kerbstonelaw11.ReleaseMore", spec := "releaseMore", inPlace := ["math/bits.Add64", "math/bits.Sub64"], unfollowed := true, recurses := true, apart := false, narrowed := true }
def ReleaseMoreUptoSaid : Prop := releaseMoreUptoRow.holds Try.pinned (OpenSpec.upto releaseMoreSpec)

/-- 'kerbstonelaw11.ReleaseLearns', WHERE WHAT IT READS IS OF BULK AT MOST 1048576: true; the input reads as it did. -/
def releaseLearnsUptoRow : OpenClaim := { program := "ytmmnjelmahcbaaa", sum := "034235d48169cc55f6cb09706d328ee466286fcbf97e9e635d4f56c13e2a7954", func := "kerbstone/kerbstonelaw11.ReleaseLearns", spec := "releaseLearns", inPlace := ["math/bits.Add64", "math/bits.Sub64"], unfollowed := true, recurses := true, apart := false, narrowed := true }
def ReleaseLearnsUptoSaid : Prop := releaseLearnsUptoRow.holds Try.pinned (OpenSpec.upto releaseLearnsSpec)

/-- 'kerbstonelaw11.ReleaseSample', WHERE WHAT IT READS IS OF BULK AT MOST 1048576: true; the input reads as it did. -/
def releaseSampleUptoRow : OpenClaim := { program := "ytmmnjelmahcbaaa", sum := "034235d48169cc55f6cb09706d328ee466286fcbf97e9e635d4f56c13e2a7954", func := "kerbstone/kerbstonelaw11.ReleaseSample", spec := "releaseSample", inPlace := ["math/bits.Add64", "math/bits.Sub64"], unfollowed := true, recurses := true, apart := false, narrowed := true }
def ReleaseSampleUptoSaid : Prop := releaseSampleUptoRow.holds Try.pinned (OpenSpec.upto releaseSampleSpec)

/-- 'kerbstonelaw11.ReleaseOrders', WHERE WHAT IT READS IS OF BULK AT MOST 1048576: true; the input reads as it did. -/
def releaseOrdersUptoRow : OpenClaim := { program := "ytmmnjelmahcbaaa", sum := "034235d48169cc55f6cb09706d328ee466286fcbf97e9e635d4f56c13e2a7954", func := "kerbstone/kerbstonelaw11.ReleaseOrders", spec := "releaseOrders", inPlace := ["math/bits.Add64", "math/bits.Sub64"], unfollowed := true, recurses := true, apart := false, narrowed := true }
def ReleaseOrdersUptoSaid : Prop := releaseOrdersUptoRow.holds Try.pinned (OpenSpec.upto releaseOrdersSpec)

/-- 'kerbstonelaw11.ReleaseShares', WHERE WHAT IT READS IS OF BULK AT MOST 1048576: true; the input reads as it did. -/
def releaseSharesUptoRow : OpenClaim := { program := "ytmmnjelmahcbaaa", sum := "034235d48169cc55f6cb09706d328ee466286fcbf97e9e635d4f56c13e2a7954", func := "kerbstone/kerbstonelaw11.ReleaseShares", spec := "releaseShares", inPlace := ["math/bits.Add64", "math/bits.Sub64"], unfollowed := true, recurses := true, apart := false, narrowed := true }
def ReleaseSharesUptoSaid : Prop := releaseSharesUptoRow.holds Try.pinned (OpenSpec.upto releaseSharesSpec)

/-- 'kerbstonelaw11.ReleaseStays', WHERE WHAT IT READS IS OF BULK AT MOST 1048576: true; the input reads as it did. -/
def releaseStaysUptoRow : OpenClaim := { program := "ytmmnjelmahcbaaa", sum := "034235d48169cc55f6cb09706d328ee466286fcbf97e9e635d4f56c13e2a7954", func := "kerbstone/kerbstonelaw11.ReleaseStays", spec := "releaseStays", inPlace := ["math/bits.Add64", "math/bits.Sub64"], unfollowed := true, recurses := true, apart := false, narrowed := true }
def ReleaseStaysUptoSaid : Prop := releaseStaysUptoRow.holds Try.pinned (OpenSpec.upto releaseStaysSpec)

end Rows
end Go.Proofs.Ytmmnjelmahcbaaa
