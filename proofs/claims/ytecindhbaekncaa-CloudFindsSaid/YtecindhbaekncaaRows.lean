/-
  No cell of these rows narrows 'for every input' (looked for: loops, veiled, ifaces, maps, wideKeys, modest, calm, conditions, laid).
  DERIVED. THE GIVEN ROWS OF THIS SEAT. 11 by the template 'for every input the law returns true; each argument reads behind the call as it read before'; 0 by the template 'total and deterministic' (their statements: YtecindhbaekncaaTotals.lean).
  GIVEN WITH THE SEED: the statements are not yours to turn. If you find one false, say at which input.
  Laid BY PROGRAM, IN A SANDBOX (cutbox-rows.mjs): the forced cells as the released guide's own fill.sh prints them over the translation e4677cd5103f8dfb… (all of the seat's roots in one cut). By AI agents, Wed Nov 11 2026. No macro, syntax, notation, axiom, sorry.
-/
import Derived.Test.YtecindhbaekncaaChecked
import GoSem.Claim
import GoSem.ClaimJoined
import GoSem.ClaimMapViews
import Derived.JoinedTies
import Derived.KernelRfl
namespace Go.Proofs.Ytecindhbaekncaa
/- THE CELL 'sum', in the pinned program and in every row, IS THE sha256 OF THE DUMP (.gsa) THAT YtecindhbaekncaaProg.lean LOADS. Nothing in Lean hashes anything: it is a label: what it is worth is what the hold of that sum in a sandbox is worth. -/
noncomputable def Try.pinned : Pinned := { name := "ytecindhbaekncaa", sum := "e4677cd5103f8dfba7ac4f87ff1a3f1a03667759f4bde4d20be1a504f3273134", checked := Try.checked }
namespace Rows
def none {H : Type} : Left H := { results := [], args := [] }

/-- 'kerbstonelaw02.CloudSegments': WHATEVER THE INPUT: true; the input reads as it did. -/
def cloudSegmentsSpec : ChangeSpec := { name := "cloudSegments", fn := fun _ => fun
  | [d1, d2] => { results := [.lit (.bool true)], args := [d1, d2] }
  | _ => none }
def cloudSegmentsRow : OpenClaim := { program := "ytecindhbaekncaa", sum := "e4677cd5103f8dfba7ac4f87ff1a3f1a03667759f4bde4d20be1a504f3273134", func := "kerbstone/kerbstonelaw02.CloudSegments", spec := "cloudSegments", unfollowed := true, recurses := true, plainKeys := false, apart := false }
def CloudSegmentsSaid : Prop := cloudSegmentsRow.holds Try.pinned (OpenSpec.ofChange cloudSegmentsSpec)

/-- ITS FALSE NEIGHBOUR: 'it returns false'. Refute it at one input. -/
def cloudSegmentsWrong : ChangeSpec := { name := "cloudSegments", fn := fun _ => fun
  | [d1, d2] => { results := [.lit (.bool false)], args := [d1, d2] }
  | _ => none }
def CloudSegmentsWrongFalsely : Prop := cloudSegmentsRow.holds Try.pinned (OpenSpec.ofChange cloudSegmentsWrong)

/-- 'kerbstonelaw02.CloudChecks': WHATEVER THE INPUT: true; the input reads as it did. -/
def cloudChecksSpec : ChangeSpec := { name := "cloudChecks", fn := fun _ => fun
  | [d1, d2] => { results := [.lit (.bool true)], args := [d1, d2] }
  | _ => none }
def cloudChecksRow : OpenClaim := { program := "ytecindhbaekncaa", sum := "e4677cd5103f8dfba7ac4f87ff1a3f1a03667759f4bde4d20be1a504f3273134", func := "kerbstone/kerbstonelaw02.CloudChecks", spec := "cloudChecks", unfollowed := true, recurses := true, plainKeys := false, apart := false }
def CloudChecksSaid : Prop := cloudChecksRow.holds Try.pinned (OpenSpec.ofChange cloudChecksSpec)

/-- ITS FALSE NEIGHBOUR: 'it returns false'. Refute it at one input. -/
def cloudChecksWrong : ChangeSpec := { name := "cloudChecks", fn := fun _ => fun
  | [d1, d2] => { results := [.lit (.bool false)], args := [d1, d2] }
  | _ => none }
def CloudChecksWrongFalsely : Prop := cloudChecksRow.holds Try.pinned (OpenSpec.ofChange cloudChecksWrong)

/-- 'kerbstonelaw02.CloudRegisters': WHATEVER THE INPUT: true; the input reads as it did. -/
def cloudRegistersSpec : ChangeSpec := { name := "cloudRegisters", fn := fun _ => fun
  | [d1, d2, d3, d4, d5] => { results := [.lit (.bool true)], args := [d1, d2, d3, d4, d5] }
  | _ => none }
def cloudRegistersRow : OpenClaim := { program := "ytecindhbaekncaa", sum := "e4677cd5103f8dfba7ac4f87ff1a3f1a03667759f4bde4d20be1a504f3273134", func := "kerbstone/kerbstonelaw02.CloudRegisters", spec := "cloudRegisters", unfollowed := true, recurses := true, plainKeys := false, apart := false }
def CloudRegistersSaid : Prop := cloudRegistersRow.holds Try.pinned (OpenSpec.ofChange cloudRegistersSpec)

/-- ITS FALSE NEIGHBOUR: 'it returns false'. Refute it at one input. -/
def cloudRegistersWrong : ChangeSpec := { name := "cloudRegisters", fn := fun _ => fun
  | [d1, d2, d3, d4, d5] => { results := [.lit (.bool false)], args := [d1, d2, d3, d4, d5] }
  | _ => none }
def CloudRegistersWrongFalsely : Prop := cloudRegistersRow.holds Try.pinned (OpenSpec.ofChange cloudRegistersWrong)

/-- 'kerbstonelaw02.CloudBest': WHATEVER THE INPUT: true; the input reads as it did. -/
def cloudBestSpec : ChangeSpec := { name := "cloudBest", fn := fun _ => fun
  | [d1, d2, d3, d4] => { results := [.lit (.bool true)], args := [d1, d2, d3, d4] }
  | _ => none }
def cloudBestRow : OpenClaim := { program := "ytecindhbaekncaa", sum := "e4677cd5103f8dfba7ac4f87ff1a3f1a03667759f4bde4d20be1a504f3273134", func := "kerbstone/kerbstonelaw02.CloudBest", spec := "cloudBest", unfollowed := true, recurses := true, plainKeys := false, apart := false }
def CloudBestSaid : Prop := cloudBestRow.holds Try.pinned (OpenSpec.ofChange cloudBestSpec)

/-- ITS FALSE NEIGHBOUR: 'it returns false'. Refute it at one input. -/
def cloudBestWrong : ChangeSpec := { name := "cloudBest", fn := fun _ => fun
  | [d1, d2, d3, d4] => { results := [.lit (.bool false)], args := [d1, d2, d3, d4] }
  | _ => none }
def CloudBestWrongFalsely : Prop := cloudBestRow.holds Try.pinned (OpenSpec.ofChange cloudBestWrong)

/-- 'kerbstonelaw02.CloudFinds': WHATEVER THE INPUT: true; the input reads as it did. -/
def cloudFindsSpec : ChangeSpec := { name := "cloudFinds", fn := fun _ => fun
  | [d1, d2, d3, d4, d5] => { results := [.lit (.bool true)], args := [d1, d2, d3, d4, d5] }
  | _ => none }
def cloudFindsRow : OpenClaim := { program := "ytecindhbaekncaa", sum := "e4677cd5103f8dfba7ac4f87ff1a3f1a03667759f4bde4d20be1a504f3273134", func := "kerbstone/kerbstonelaw02.CloudFinds", spec := "cloudFinds", unfollowed := true, recurses := true, plainKeys := false, apart := false }
def CloudFindsSaid : Prop := cloudFindsRow.holds Try.pinned (OpenSpec.ofChange cloudFindsSpec)

/-- ITS FALSE NEIGHBOUR: 'it returns false'. Refute it at one input. -/
def cloudFindsWrong : ChangeSpec := { name := "cloudFinds", fn := fun _ => fun
  | [d1, d2, d3, d4, d5] => { results := [.lit (.bool false)], args := [d1, d2, d3, d4, d5] }
  | _ => none }
def CloudFindsWrongFalsely : Prop := cloudFindsRow.holds Try.pinned (OpenSpec.ofChange cloudFindsWrong)

/-- 'kerbstonelaw02.CloudIndex': WHATEVER THE INPUT: true; the input reads as it did. -/
def cloudIndexSpec : ChangeSpec := { name := "cloudIndex", fn := fun _ => fun
  | [d1, d2] => { results := [.lit (.bool true)], args := [d1, d2] }
  | _ => none }
def cloudIndexRow : OpenClaim := { program := "ytecindhbaekncaa", sum := "e4677cd5103f8dfba7ac4f87ff1a3f1a03667759f4bde4d20be1a504f3273134", func := "kerbstone/kerbstonelaw02.CloudIndex", spec := "cloudIndex", unfollowed := true, recurses := true, plainKeys := false, apart := false }
def CloudIndexSaid : Prop := cloudIndexRow.holds Try.pinned (OpenSpec.ofChange cloudIndexSpec)

/-- ITS FALSE NEIGHBOUR: 'it returns false'. Refute it at one input. -/
def cloudIndexWrong : ChangeSpec := { name := "cloudIndex", fn := fun _ => fun
  | [d1, d2] => { results := [.lit (.bool false)], args := [d1, d2] }
  | _ => none }
def CloudIndexWrongFalsely : Prop := cloudIndexRow.holds Try.pinned (OpenSpec.ofChange cloudIndexWrong)

/-- 'kerbstonelaw02.CloudReduces': WHATEVER THE INPUT: true; the input reads as it did. -/
def cloudReducesSpec : ChangeSpec := { name := "cloudReduces", fn := fun _ => fun
  | [d1, d2] => { results := [.lit (.bool true)], args := [d1, d2] }
  | _ => none }
def cloudReducesRow : OpenClaim := { program := "ytecindhbaekncaa", sum := "e4677cd5103f8dfba7ac4f87ff1a3f1a03667759f4bde4d20be1a504f3273134", func := "kerbstone/kerbstonelaw02.CloudReduces", spec := "cloudReduces", unfollowed := true, recurses := true, plainKeys := false, apart := false }
def CloudReducesSaid : Prop := cloudReducesRow.holds Try.pinned (OpenSpec.ofChange cloudReducesSpec)

/-- ITS FALSE NEIGHBOUR: 'it returns false'. Refute it at one input. -/
def cloudReducesWrong : ChangeSpec := { name := "cloudReduces", fn := fun _ => fun
  | [d1, d2] => { results := [.lit (.bool false)], args := [d1, d2] }
  | _ => none }
def CloudReducesWrongFalsely : Prop := cloudReducesRow.holds Try.pinned (OpenSpec.ofChange cloudReducesWrong)

/-- 'kerbstonelaw02.CloudBound': WHATEVER THE INPUT: true; the input reads as it did. -/
def cloudBoundSpec : ChangeSpec := { name := "cloudBound", fn := fun _ => fun
  | [d1, d2] => { results := [.lit (.bool true)], args := [d1, d2] }
  | _ => none }
def cloudBoundRow : OpenClaim := { program := "ytecindhbaekncaa", sum := "e4677cd5103f8dfba7ac4f87ff1a3f1a03667759f4bde4d20be1a504f3273134", func := "kerbstone/kerbstonelaw02.CloudBound", spec := "cloudBound", unfollowed := true, recurses := true, plainKeys := false, apart := false }
def CloudBoundSaid : Prop := cloudBoundRow.holds Try.pinned (OpenSpec.ofChange cloudBoundSpec)

/-- ITS FALSE NEIGHBOUR: 'it returns false'. Refute it at one input. -/
def cloudBoundWrong : ChangeSpec := { name := "cloudBound", fn := fun _ => fun
  | [d1, d2] => { results := [.lit (.bool false)], args := [d1, d2] }
  | _ => none }
def CloudBoundWrongFalsely : Prop := cloudBoundRow.holds Try.pinned (OpenSpec.ofChange cloudBoundWrong)

/-- 'kerbstonelaw02.CloudHulls': WHATEVER THE INPUT: true; the input reads as it did. -/
def cloudHullsSpec : ChangeSpec := { name := "cloudHulls", fn := fun _ => fun
  | [d1, d2, d3] => { results := [.lit (.bool true)], args := [d1, d2, d3] }
  | _ => none }
def cloudHullsRow : OpenClaim := { program := "ytecindhbaekncaa", sum := "e4677cd5103f8dfba7ac4f87ff1a3f1a03667759f4bde4d20be1a504f3273134", func := "kerbstone/kerbstonelaw02.CloudHulls", spec := "cloudHulls", unfollowed := true, recurses := true, plainKeys := false, apart := false }
def CloudHullsSaid : Prop := cloudHullsRow.holds Try.pinned (OpenSpec.ofChange cloudHullsSpec)

/-- ITS FALSE NEIGHBOUR: 'it returns false'. Refute it at one input. -/
def cloudHullsWrong : ChangeSpec := { name := "cloudHulls", fn := fun _ => fun
  | [d1, d2, d3] => { results := [.lit (.bool false)], args := [d1, d2, d3] }
  | _ => none }
def CloudHullsWrongFalsely : Prop := cloudHullsRow.holds Try.pinned (OpenSpec.ofChange cloudHullsWrong)

/-- 'kerbstonelaw02.CloudCovers': WHATEVER THE INPUT: true; the input reads as it did. -/
def cloudCoversSpec : ChangeSpec := { name := "cloudCovers", fn := fun _ => fun
  | [d1, d2] => { results := [.lit (.bool true)], args := [d1, d2] }
  | _ => none }
def cloudCoversRow : OpenClaim := { program := "ytecindhbaekncaa", sum := "e4677cd5103f8dfba7ac4f87ff1a3f1a03667759f4bde4d20be1a504f3273134", func := "kerbstone/kerbstonelaw02.CloudCovers", spec := "cloudCovers", unfollowed := true, recurses := true, plainKeys := false, apart := false }
def CloudCoversSaid : Prop := cloudCoversRow.holds Try.pinned (OpenSpec.ofChange cloudCoversSpec)

/-- ITS FALSE NEIGHBOUR: 'it returns false'. Refute it at one input. -/
def cloudCoversWrong : ChangeSpec := { name := "cloudCovers", fn := fun _ => fun
  | [d1, d2] => { results := [.lit (.bool false)], args := [d1, d2] }
  | _ => none }
def CloudCoversWrongFalsely : Prop := cloudCoversRow.holds Try.pinned (OpenSpec.ofChange cloudCoversWrong)

/-- 'kerbstonelaw02.CloudShifts': WHATEVER THE INPUT: true; the input reads as it did. -/
def cloudShiftsSpec : ChangeSpec := { name := "cloudShifts", fn := fun _ => fun
  | [d1, d2, d3, d4] => { results := [.lit (.bool true)], args := [d1, d2, d3, d4] }
  | _ => none }
def cloudShiftsRow : OpenClaim := { program := "ytecindhbaekncaa", sum := "e4677cd5103f8dfba7ac4f87ff1a3f1a03667759f4bde4d20be1a504f3273134", func := "kerbstone/kerbstonelaw02.CloudShifts", spec := "cloudShifts", unfollowed := true, recurses := true, plainKeys := false, apart := false }
def CloudShiftsSaid : Prop := cloudShiftsRow.holds Try.pinned (OpenSpec.ofChange cloudShiftsSpec)

/-- ITS FALSE NEIGHBOUR: 'it returns false'. Refute it at one input. -/
def cloudShiftsWrong : ChangeSpec := { name := "cloudShifts", fn := fun _ => fun
  | [d1, d2, d3, d4] => { results := [.lit (.bool false)], args := [d1, d2, d3, d4] }
  | _ => none }
def CloudShiftsWrongFalsely : Prop := cloudShiftsRow.holds Try.pinned (OpenSpec.ofChange cloudShiftsWrong)

/- THE SECOND FORM. 'bulk': how many values and letters a reading holds, each counted each time it is reached (what is shared counts as often as it is met; a slice's spare places count too). A statement '..UptoSaid' is the law's where the arguments, and the package variables that the reading takes, are together of bulk at most 1048576: NARROWER than '..Said'. Prove '..Said' where nothing that the law and all that it calls make is longer than what came in: it says more and counts as full. Else prove '..UptoSaid'. A law counts once. -/
mutual
def uptoBulk {H : Type} : DataW H → Nat
  | .lit (.string bytes) => bytes.length + 1
  | .lit _ => 1
  | .nil => 1
  | .ptr d => uptoBulk d + 1
  | .slice elems spare => uptoBulkAll elems + uptoBulkAll spare + 1
  | .agg parts => uptoBulkAll parts + 1
  | .iface _ d => uptoBulk d + 1
  | .map entries => uptoBulkEntries entries + 1
  | .held _ => 1
def uptoBulkAll {H : Type} : List (DataW H) → Nat
  | [] => 0
  | d :: r => uptoBulk d + uptoBulkAll r
def uptoBulkEntries {H : Type} : List (Lit × DataW H) → Nat
  | [] => 0
  | x :: r => uptoBulkEntry x + uptoBulkEntries r
def uptoBulkEntry {H : Type} : Lit × DataW H → Nat
  | (.string bytes, d) => bytes.length + uptoBulk d + 1
  | (_, d) => uptoBulk d + 1
 end
def uptoSmall : (H : Type) → List (DataW H) → Bool := fun _ ds => decide (uptoBulkAll ds ≤ 1048576)
def OpenSpec.upto (s : _root_.Go.ChangeSpec) : _root_.Go.OpenSpec := { _root_.Go.OpenSpec.ofChange s with cond := some uptoSmall }

/-- 'kerbstonelaw02.CloudSegments', WHERE WHAT IT READS IS OF BULK AT MOST 1048576: true; the input reads as it did. -/
def cloudSegmentsUptoRow : OpenClaim := { program := "ytecindhbaekncaa", sum := "e4677cd5103f8dfba7ac4f87ff1a3f1a03667759f4bde4d20be1a504f3273134", func := "kerbstone/kerbstonelaw02.CloudSegments", spec := "cloudSegments", unfollowed := true, recurses := true, plainKeys := false, apart := false, narrowed := true }
def CloudSegmentsUptoSaid : Prop := cloudSegmentsUptoRow.holds Try.pinned (OpenSpec.upto cloudSegmentsSpec)

/-- 'kerbstonelaw02.CloudChecks', WHERE WHAT IT READS IS OF BULK AT MOST 1048576: true; the input reads as it did. -/
def cloudChecksUptoRow : OpenClaim := { program := "ytecindhbaekncaa", sum := "e4677cd5103f8dfba7ac4f87ff1a3f1a03667759f4bde4d20be1a504f3273134", func := "kerbstone/kerbstonelaw02.CloudChecks", spec := "cloudChecks", unfollowed := true, recurses := true, plainKeys := false, apart := false, narrowed := true }
def CloudChecksUptoSaid : Prop := cloudChecksUptoRow.holds Try.pinned (OpenSpec.upto cloudChecksSpec)

/-- 'kerbstonelaw02.CloudRegisters', WHERE WHAT IT READS IS OF BULK AT MOST 1048576: true; the input reads as it did. -/
def cloudRegistersUptoRow : OpenClaim := { program := "ytecindhbaekncaa", sum := "e4677cd5103f8dfba7ac4f87ff1a3f1a03667759f4bde4d20be1a504f3273134", func := "kerbstone/kerbstonelaw02.CloudRegisters", spec := "cloudRegisters", unfollowed := true, recurses := true, plainKeys := false, apart := false, narrowed := true }
def CloudRegistersUptoSaid : Prop := cloudRegistersUptoRow.holds Try.pinned (OpenSpec.upto cloudRegistersSpec)

/-- 'kerbstonelaw02.CloudBest', WHERE WHAT IT READS IS OF BULK AT MOST 1048576: true; the input reads as it did. -/
def cloudBestUptoRow : OpenClaim := { program := "ytecindhbaekncaa", sum := "e4677cd5103f8dfba7ac4f87ff1a3f1a03667759f4bde4d20be1a504f3273134", func := "kerbstone/kerbstonelaw02.CloudBest", spec := "cloudBest", unfollowed := true, recurses := true, plainKeys := false, apart := false, narrowed := true }
def CloudBestUptoSaid : Prop := cloudBestUptoRow.holds Try.pinned (OpenSpec.upto cloudBestSpec)

/-- 'kerbstonelaw02.CloudFinds', WHERE WHAT IT READS IS OF BULK AT MOST 1048576: true; the input reads as it did. -/
def cloudFindsUptoRow : OpenClaim := { program := "ytecindhbaekncaa", sum := "e4677cd5103f8dfba7ac4f87ff1a3f1a03667759f4bde4d20be1a504f3273134", func := "kerbstone/kerbstonelaw02.CloudFinds", spec := "cloudFinds", unfollowed := true, recurses := true, plainKeys := false, apart := false, narrowed := true }
def CloudFindsUptoSaid : Prop := cloudFindsUptoRow.holds Try.pinned (OpenSpec.upto cloudFindsSpec)

/-- 'kerbstonelaw02.CloudIndex', WHERE WHAT IT READS IS OF BULK AT MOST 1048576: true; the input reads as it did. -/
def cloudIndexUptoRow : OpenClaim := { program := "ytecindhbaekncaa", sum := "e4677cd5103f8dfba7ac4f87ff1a3f1a03667759f4bde4d20be1a504f3273134", func := "kerbstone/kerbstonelaw02.CloudIndex", spec := "cloudIndex", unfollowed := true, recurses := true, plainKeys := false, apart := false, narrowed := true }
def CloudIndexUptoSaid : Prop := cloudIndexUptoRow.holds Try.pinned (OpenSpec.upto cloudIndexSpec)

/-- 'kerbstonelaw02.CloudReduces', WHERE WHAT IT READS IS OF BULK AT MOST 1048576: true; the input reads as it did. -/
def cloudReducesUptoRow : OpenClaim := { program := "ytecindhbaekncaa", sum := "e4677cd5103f8dfba7ac4f87ff1a3f1a03667759f4bde4d20be1a504f3273134", func := "kerbstone/kerbstonelaw02.CloudReduces", spec := "cloudReduces", unfollowed := true, recurses := true, plainKeys := false, apart := false, narrowed := true }
def CloudReducesUptoSaid : Prop := cloudReducesUptoRow.holds Try.pinned (OpenSpec.upto cloudReducesSpec)

/-- 'kerbstonelaw02.CloudBound', WHERE WHAT IT READS IS OF BULK AT MOST 1048576: true; the input reads as it did. -/
def cloudBoundUptoRow : OpenClaim := { program := "ytecindhbaekncaa", sum := "e4677cd5103f8dfba7ac4f87ff1a3f1a03667759f4bde4d20be1a504f3273134", func := "kerbstone/kerbstonelaw02.CloudBound", spec := "cloudBound", unfollowed := true, recurses := true, plainKeys := false, apart := false, narrowed := true }
def CloudBoundUptoSaid : Prop := cloudBoundUptoRow.holds Try.pinned (OpenSpec.upto cloudBoundSpec)

/-- 'kerbstonelaw02.CloudHulls', WHERE WHAT IT READS IS OF BULK AT MOST 1048576: true; the input reads as it did. -/
def cloudHullsUptoRow : OpenClaim := { program := "ytecindhbaekncaa", sum := "e4677cd5103f8dfba7ac4f87ff1a3f1a03667759f4bde4d20be1a504f3273134", func := "kerbstone/kerbstonelaw02.CloudHulls", spec := "cloudHulls", unfollowed := true, recurses := true, plainKeys := false, apart := false, narrowed := true }
def CloudHullsUptoSaid : Prop := cloudHullsUptoRow.holds Try.pinned (OpenSpec.upto cloudHullsSpec)

/-- 'kerbstonelaw02.CloudCovers', WHERE WHAT IT READS IS OF BULK AT MOST 1048576: true; the input reads as it did. -/
def cloudCoversUptoRow : OpenClaim := { program := "ytecindhbaekncaa", sum := "e4677cd5103f8dfba7ac4f87ff1a3f1a03667759f4bde4d20be1a504f3273134", func := "kerbstone/kerbstonelaw02.CloudCovers", spec := "cloudCovers", unfollowed := true, recurses := true, plainKeys := false, apart := false, narrowed := true }
def CloudCoversUptoSaid : Prop := cloudCoversUptoRow.holds Try.pinned (OpenSpec.upto cloudCoversSpec)

/-- 'kerbstonelaw02.CloudShifts', WHERE WHAT IT READS IS OF BULK AT MOST 1048576: true; the input reads as it did. -/
def cloudShiftsUptoRow : OpenClaim := { program := "ytecindhbaekncaa", sum := "e4677cd5103f8dfba7ac4f87ff1a3f1a03667759f4bde4d20be1a504f3273134", func := "kerbstone/kerbstonelaw02.CloudShifts", spec := "cloudShifts", unfollowed := true, recurses := true, plainKeys := false, apart := false, narrowed := true }
def CloudShiftsUptoSaid : Prop := cloudShiftsUptoRow.holds Try.pinned (OpenSpec.upto cloudShiftsSpec)

end Rows
end Go.Proofs.Ytecindhbaekncaa
