/-
  No cell of these rows narrows 'for every input' (looked for: loops, veiled, ifaces, maps, wideKeys, modest, calm, conditions, laid).
  DERIVED. THE GIVEN ROWS OF THIS SEAT. 8 by the template 'for every input the law returns true; each argument reads behind the call as it read before'; 0 by the template 'total and deterministic' (their statements: YtjjdabihnmilgaaGreatTotals.lean).
  GIVEN WITH THE SEED: the statements are not yours to turn. If you find one false, say at which input.
  Laid BY PROGRAM, IN A SANDBOX (cutbox-rows.mjs): the forced cells as the released guide's own fill.sh prints them over the translation 5e8c3cc88933a495… (all of the seat's roots in one cut). By AI agents, Wed Nov 11 2026. No macro, syntax, notation, axiom, sorry.
-/
import Derived.Test.YtjjdabihnmilgaaGreatChecked
import GoSem.Claim
import GoSem.ClaimJoined
import GoSem.ClaimMapViews
import Derived.JoinedTies
import Derived.KernelRfl
namespace Go.Proofs.YtjjdabihnmilgaaGreat
/- THE CELL 'sum', in the pinned program and in every row, IS THE sha256 OF THE DUMP (.gsa) THAT YtjjdabihnmilgaaGreatProg.lean LOADS. Nothing in Lean hashes anything: it is a label: what it is worth is what the hold of that sum in a sandbox is worth. -/
noncomputable def Tryz.pinned : Pinned := { name := "ytjjdabihnmilgaagreat", sum := "5e8c3cc88933a49565bb54a6b4f3a4fd48e3421a3bd8564611ad7d78f4c93f50", checked := Tryz.checked }
namespace Rows
def none {H : Type} : Left H := { results := [], args := [] }

/-- 'canopylaw16.RangesStay': WHATEVER THE INPUT: true; the input reads as it did. -/
def rangesStaySpec : ChangeSpec := { name := "rangesStay", fn := fun _ => fun
  | [d1, d2, d3] => { results := [.lit (.bool true)], args := [d1, d2, d3] }
  | _ => none }
def rangesStayRow : OpenClaim := { program := "ytjjdabihnmilgaagreat", sum := "5e8c3cc88933a49565bb54a6b4f3a4fd48e3421a3bd8564611ad7d78f4c93f50", func := "canopy/canopylaw16.RangesStay", spec := "rangesStay", inPlace := ["slices.overlaps[int]", "slices.overlaps[uint16]"], unfollowed := true, recurses := true, plainKeys := false, apart := false }
def RangesStaySaid : Prop := rangesStayRow.holds Tryz.pinned (OpenSpec.ofChange rangesStaySpec)

/-- ITS FALSE NEIGHBOUR: 'it returns false'. Refute it at one input. -/
def rangesStayWrong : ChangeSpec := { name := "rangesStay", fn := fun _ => fun
  | [d1, d2, d3] => { results := [.lit (.bool false)], args := [d1, d2, d3] }
  | _ => none }
def RangesStayWrongFalsely : Prop := rangesStayRow.holds Tryz.pinned (OpenSpec.ofChange rangesStayWrong)

/-- 'canopylaw16.RangesParts': WHATEVER THE INPUT: true; the input reads as it did. -/
def rangesPartsSpec : ChangeSpec := { name := "rangesParts", fn := fun _ => fun
  | [d1, d2, d3, d4] => { results := [.lit (.bool true)], args := [d1, d2, d3, d4] }
  | _ => none }
def rangesPartsRow : OpenClaim := { program := "ytjjdabihnmilgaagreat", sum := "5e8c3cc88933a49565bb54a6b4f3a4fd48e3421a3bd8564611ad7d78f4c93f50", func := "canopy/canopylaw16.RangesParts", spec := "rangesParts", inPlace := ["slices.overlaps[int]", "slices.overlaps[uint16]"], unfollowed := true, recurses := true, plainKeys := false, apart := false }
def RangesPartsSaid : Prop := rangesPartsRow.holds Tryz.pinned (OpenSpec.ofChange rangesPartsSpec)

/-- ITS FALSE NEIGHBOUR: 'it returns false'. Refute it at one input. -/
def rangesPartsWrong : ChangeSpec := { name := "rangesParts", fn := fun _ => fun
  | [d1, d2, d3, d4] => { results := [.lit (.bool false)], args := [d1, d2, d3, d4] }
  | _ => none }
def RangesPartsWrongFalsely : Prop := rangesPartsRow.holds Tryz.pinned (OpenSpec.ofChange rangesPartsWrong)

/-- 'canopylaw16.RangesTurned': WHATEVER THE INPUT: true; the input reads as it did. -/
def rangesTurnedSpec : ChangeSpec := { name := "rangesTurned", fn := fun _ => fun
  | [d1, d2, d3] => { results := [.lit (.bool true)], args := [d1, d2, d3] }
  | _ => none }
def rangesTurnedRow : OpenClaim := { program := "ytjjdabihnmilgaagreat", sum := "5e8c3cc88933a49565bb54a6b4f3a4fd48e3421a3bd8564611ad7d78f4c93f50", func := "canopy/canopylaw16.RangesTurned", spec := "rangesTurned", inPlace := ["slices.overlaps[int]", "slices.overlaps[uint16]"], unfollowed := true, recurses := true, plainKeys := false, apart := false }
def RangesTurnedSaid : Prop := rangesTurnedRow.holds Tryz.pinned (OpenSpec.ofChange rangesTurnedSpec)

/-- ITS FALSE NEIGHBOUR: 'it returns false'. Refute it at one input. -/
def rangesTurnedWrong : ChangeSpec := { name := "rangesTurned", fn := fun _ => fun
  | [d1, d2, d3] => { results := [.lit (.bool false)], args := [d1, d2, d3] }
  | _ => none }
def RangesTurnedWrongFalsely : Prop := rangesTurnedRow.holds Tryz.pinned (OpenSpec.ofChange rangesTurnedWrong)

/-- 'canopylaw16.RangesSet': WHATEVER THE INPUT: true; the input reads as it did. -/
def rangesSetSpec : ChangeSpec := { name := "rangesSet", fn := fun _ => fun
  | [d1, d2, d3] => { results := [.lit (.bool true)], args := [d1, d2, d3] }
  | _ => none }
def rangesSetRow : OpenClaim := { program := "ytjjdabihnmilgaagreat", sum := "5e8c3cc88933a49565bb54a6b4f3a4fd48e3421a3bd8564611ad7d78f4c93f50", func := "canopy/canopylaw16.RangesSet", spec := "rangesSet", inPlace := ["slices.overlaps[int]", "slices.overlaps[uint16]"], unfollowed := true, recurses := true, plainKeys := false, apart := false }
def RangesSetSaid : Prop := rangesSetRow.holds Tryz.pinned (OpenSpec.ofChange rangesSetSpec)

/-- ITS FALSE NEIGHBOUR: 'it returns false'. Refute it at one input. -/
def rangesSetWrong : ChangeSpec := { name := "rangesSet", fn := fun _ => fun
  | [d1, d2, d3] => { results := [.lit (.bool false)], args := [d1, d2, d3] }
  | _ => none }
def RangesSetWrongFalsely : Prop := rangesSetRow.holds Tryz.pinned (OpenSpec.ofChange rangesSetWrong)

/-- 'canopylaw16.RangesAsked': WHATEVER THE INPUT: true; the input reads as it did. -/
def rangesAskedSpec : ChangeSpec := { name := "rangesAsked", fn := fun _ => fun
  | [d1, d2, d3, d4, d5] => { results := [.lit (.bool true)], args := [d1, d2, d3, d4, d5] }
  | _ => none }
def rangesAskedRow : OpenClaim := { program := "ytjjdabihnmilgaagreat", sum := "5e8c3cc88933a49565bb54a6b4f3a4fd48e3421a3bd8564611ad7d78f4c93f50", func := "canopy/canopylaw16.RangesAsked", spec := "rangesAsked", inPlace := ["slices.overlaps[int]", "slices.overlaps[uint16]"], unfollowed := true, recurses := true, plainKeys := false, apart := false }
def RangesAskedSaid : Prop := rangesAskedRow.holds Tryz.pinned (OpenSpec.ofChange rangesAskedSpec)

/-- ITS FALSE NEIGHBOUR: 'it returns false'. Refute it at one input. -/
def rangesAskedWrong : ChangeSpec := { name := "rangesAsked", fn := fun _ => fun
  | [d1, d2, d3, d4, d5] => { results := [.lit (.bool false)], args := [d1, d2, d3, d4, d5] }
  | _ => none }
def RangesAskedWrongFalsely : Prop := rangesAskedRow.holds Tryz.pinned (OpenSpec.ofChange rangesAskedWrong)

/-- 'canopylaw16.RangesNodes': WHATEVER THE INPUT: true; the input reads as it did. -/
def rangesNodesSpec : ChangeSpec := { name := "rangesNodes", fn := fun _ => fun
  | [d1, d2, d3, d4] => { results := [.lit (.bool true)], args := [d1, d2, d3, d4] }
  | _ => none }
def rangesNodesRow : OpenClaim := { program := "ytjjdabihnmilgaagreat", sum := "5e8c3cc88933a49565bb54a6b4f3a4fd48e3421a3bd8564611ad7d78f4c93f50", func := "canopy/canopylaw16.RangesNodes", spec := "rangesNodes", inPlace := ["slices.overlaps[int]", "slices.overlaps[uint16]"], unfollowed := true, recurses := true, plainKeys := false, apart := false }
def RangesNodesSaid : Prop := rangesNodesRow.holds Tryz.pinned (OpenSpec.ofChange rangesNodesSpec)

/-- ITS FALSE NEIGHBOUR: 'it returns false'. Refute it at one input. -/
def rangesNodesWrong : ChangeSpec := { name := "rangesNodes", fn := fun _ => fun
  | [d1, d2, d3, d4] => { results := [.lit (.bool false)], args := [d1, d2, d3, d4] }
  | _ => none }
def RangesNodesWrongFalsely : Prop := rangesNodesRow.holds Tryz.pinned (OpenSpec.ofChange rangesNodesWrong)

/-- 'canopylaw16.RangesValid': WHATEVER THE INPUT: true; the input reads as it did. -/
def rangesValidSpec : ChangeSpec := { name := "rangesValid", fn := fun _ => fun
  | [d1, d2, d3, d4, d5] => { results := [.lit (.bool true)], args := [d1, d2, d3, d4, d5] }
  | _ => none }
def rangesValidRow : OpenClaim := { program := "ytjjdabihnmilgaagreat", sum := "5e8c3cc88933a49565bb54a6b4f3a4fd48e3421a3bd8564611ad7d78f4c93f50", func := "canopy/canopylaw16.RangesValid", spec := "rangesValid", inPlace := ["slices.overlaps[int]", "slices.overlaps[uint16]"], unfollowed := true, recurses := true, plainKeys := false, apart := false }
def RangesValidSaid : Prop := rangesValidRow.holds Tryz.pinned (OpenSpec.ofChange rangesValidSpec)

/-- ITS FALSE NEIGHBOUR: 'it returns false'. Refute it at one input. -/
def rangesValidWrong : ChangeSpec := { name := "rangesValid", fn := fun _ => fun
  | [d1, d2, d3, d4, d5] => { results := [.lit (.bool false)], args := [d1, d2, d3, d4, d5] }
  | _ => none }
def RangesValidWrongFalsely : Prop := rangesValidRow.holds Tryz.pinned (OpenSpec.ofChange rangesValidWrong)

/-- 'canopylaw16.RangesFollow': WHATEVER THE INPUT: true; the input reads as it did. -/
def rangesFollowSpec : ChangeSpec := { name := "rangesFollow", fn := fun _ => fun
  | [d1, d2, d3, d4, d5, d6] => { results := [.lit (.bool true)], args := [d1, d2, d3, d4, d5, d6] }
  | _ => none }
def rangesFollowRow : OpenClaim := { program := "ytjjdabihnmilgaagreat", sum := "5e8c3cc88933a49565bb54a6b4f3a4fd48e3421a3bd8564611ad7d78f4c93f50", func := "canopy/canopylaw16.RangesFollow", spec := "rangesFollow", inPlace := ["slices.overlaps[int]", "slices.overlaps[uint16]"], unfollowed := true, recurses := true, plainKeys := false, apart := false }
def RangesFollowSaid : Prop := rangesFollowRow.holds Tryz.pinned (OpenSpec.ofChange rangesFollowSpec)

/-- ITS FALSE NEIGHBOUR: 'it returns false'. Refute it at one input. -/
def rangesFollowWrong : ChangeSpec := { name := "rangesFollow", fn := fun _ => fun
  | [d1, d2, d3, d4, d5, d6] => { results := [.lit (.bool false)], args := [d1, d2, d3, d4, d5, d6] }
  | _ => none }
def RangesFollowWrongFalsely : Prop := rangesFollowRow.holds Tryz.pinned (OpenSpec.ofChange rangesFollowWrong)

/- THE SECOND FORM. 'bulk': how many values and letters a reading holds, each counted each time it is reached (what is shared counts as often as it is met; a slice's spare places count too). A statement '..UptoSaid' is the law's where the arguments, and the package variables that the reading takes, are together of bulk at most 1048576: NARROWER than '..Said'. Prove '..Said' where nothing that the law and all that it calls make is longer than what came in: it says more and counts as full. Else prove '..UptoSaid'. A law counts once. -/
mutual
def uptoBulk {H : Type} : DataW H → Nat
  | .lit (.string bytes) => bytes.length + 1
  | .lit _ => 1
  | .nil => 1
  | .ptr d => uptoBulk d + 1
  | .slice elems spare => uptoBulkAll elems + uptoBulkAll spare + 1
  | .agg parts => uptoBulkAll parts + 1
  | .iface _ d => uptoBulk d + 1
  | .map entries => uptoBulkEntries entries + 1
  | .held _ => 1
def uptoBulkAll {H : Type} : List (DataW H) → Nat
  | [] => 0
  | d :: r => uptoBulk d + uptoBulkAll r
def uptoBulkEntries {H : Type} : List (Lit × DataW H) → Nat
  | [] => 0
  | x :: r => uptoBulkEntry x + uptoBulkEntries r
def uptoBulkEntry {H : Type} : Lit × DataW H → Nat
  | (.string bytes, d) => bytes.length + uptoBulk d + 1
  | (_, d) => uptoBulk d + 1
 end
def uptoSmall : (H : Type) → List (DataW H) → Bool := fun _ ds => decide (uptoBulkAll ds ≤ 1048576)
def OpenSpec.upto (s : _root_.Go.ChangeSpec) : _root_.Go.OpenSpec := { _root_.Go.OpenSpec.ofChange s with cond := some uptoSmall }

/-- 'canopylaw16.RangesStay', WHERE WHAT IT READS IS OF BULK AT MOST 1048576: true; the input reads as it did. -/
def rangesStayUptoRow : OpenClaim := { program := "ytjjdabihnmilgaagreat", sum := "5e8c3cc88933a49565bb54a6b4f3a4fd48e3421a3bd8564611ad7d78f4c93f50", func := "canopy/canopylaw16.RangesStay", spec := "rangesStay", inPlace := ["slices.overlaps[int]", "slices.overlaps[uint16]"], unfollowed := true, recurses := true, plainKeys := false, apart := false, narrowed := true }
def RangesStayUptoSaid : Prop := rangesStayUptoRow.holds Tryz.pinned (OpenSpec.upto rangesStaySpec)

/-- 'canopylaw16.RangesParts', WHERE WHAT IT READS IS OF BULK AT MOST 1048576: true; the input reads as it did. -/
def rangesPartsUptoRow : OpenClaim := { program := "ytjjdabihnmilgaagreat", sum := "5e8c3cc88933a49565bb54a6b4f3a4fd48e3421a3bd8564611ad7d78f4c93f50", func := "canopy/canopylaw16.RangesParts", spec := "rangesParts", inPlace := ["slices.overlaps[int]", "slices.overlaps[uint16]"], unfollowed := true, recurses := true, plainKeys := false, apart := false, narrowed := true }
def RangesPartsUptoSaid : Prop := rangesPartsUptoRow.holds Tryz.pinned (OpenSpec.upto rangesPartsSpec)

/-- 'canopylaw16.RangesTurned', WHERE WHAT IT READS IS OF BULK AT MOST 1048576: true; the input reads as it did. -/
def rangesTurnedUptoRow : OpenClaim := { program := "ytjjdabihnmilgaagreat", sum := "5e8c3cc88933a49565bb54a6b4f3a4fd48e3421a3bd8564611ad7d78f4c93f50", func := "canopy/canopylaw16.RangesTurned", spec := "rangesTurned", inPlace := ["slices.overlaps[int]", "slices.overlaps[uint16]"], unfollowed := true, recurses := true, plainKeys := false, apart := false, narrowed := true }
def RangesTurnedUptoSaid : Prop := rangesTurnedUptoRow.holds Tryz.pinned (OpenSpec.upto rangesTurnedSpec)

/-- 'canopylaw16.RangesSet', WHERE WHAT IT READS IS OF BULK AT MOST 1048576: true; the input reads as it did. -/
def rangesSetUptoRow : OpenClaim := { program := "ytjjdabihnmilgaagreat", sum := "5e8c3cc88933a49565bb54a6b4f3a4fd48e3421a3bd8564611ad7d78f4c93f50", func := "canopy/canopylaw16.RangesSet", spec := "rangesSet", inPlace := ["slices.overlaps[int]", "slices.overlaps[uint16]"], unfollowed := true, recurses := true, plainKeys := false, apart := false, narrowed := true }
def RangesSetUptoSaid : Prop := rangesSetUptoRow.holds Tryz.pinned (OpenSpec.upto rangesSetSpec)

/-- 'canopylaw16.RangesAsked', WHERE WHAT IT READS IS OF BULK AT MOST 1048576: true; the input reads as it did. -/
def rangesAskedUptoRow : OpenClaim := { program := "ytjjdabihnmilgaagreat", sum := "5e8c3cc88933a49565bb54a6b4f3a4fd48e3421a3bd8564611ad7d78f4c93f50", func := "canopy/canopylaw16.RangesAsked", spec := "rangesAsked", inPlace := ["slices.overlaps[int]", "slices.overlaps[uint16]"], unfollowed := true, recurses := true, plainKeys := false, apart := false, narrowed := true }
def RangesAskedUptoSaid : Prop := rangesAskedUptoRow.holds Tryz.pinned (OpenSpec.upto rangesAskedSpec)

/-- 'canopylaw16.RangesNodes', WHERE WHAT IT READS IS OF BULK AT MOST 1048576: true; the input reads as it did. -/
def rangesNodesUptoRow : OpenClaim := { program := "ytjjdabihnmilgaagreat", sum := "5e8c3cc88933a49565bb54a6b4f3a4fd48e3421a3bd8564611ad7d78f4c93f50", func := "canopy/canopylaw16.RangesNodes", spec := "rangesNodes", inPlace := ["slices.overlaps[int]", "slices.overlaps[uint16]"], unfollowed := true, recurses := true, plainKeys := false, apart := false, narrowed := true }
def RangesNodesUptoSaid : Prop := rangesNodesUptoRow.holds Tryz.pinned (OpenSpec.upto rangesNodesSpec)

/-- 'canopylaw16.RangesValid', WHERE WHAT IT READS IS OF BULK AT MOST 1048576: true; the input reads as it did. -/
def rangesValidUptoRow : OpenClaim := { program := "ytjjdabihnmilgaagreat", sum := "5e8c3cc88933a49565bb54a6b4f3a4fd48e3421a3bd8564611ad7d78f4c93f50", func := "canopy/canopylaw16.RangesValid", spec := "rangesValid", inPlace := ["slices.overlaps[int]", "slices.overlaps[uint16]"], unfollowed := true, recurses := true, plainKeys := false, apart := false, narrowed := true }
def RangesValidUptoSaid : Prop := rangesValidUptoRow.holds Tryz.pinned (OpenSpec.upto rangesValidSpec)

/-- 'canopylaw16.RangesFollow', WHERE WHAT IT READS IS OF BULK AT MOST 1048576: true; the input reads as it did. -/
def rangesFollowUptoRow : OpenClaim := { program := "ytjjdabihnmilgaagreat", sum := "5e8c3cc88933a49565bb54a6b4f3a4fd48e3421a3bd8564611ad7d78f4c93f50", func := "canopy/canopylaw16.RangesFollow", spec := "rangesFollow", inPlace := ["slices.overlaps[int]", "slices.overlaps[uint16]"], unfollowed := true, recurses := true, plainKeys := false, apart := false, narrowed := true }
def RangesFollowUptoSaid : Prop := rangesFollowUptoRow.holds Tryz.pinned (OpenSpec.upto rangesFollowSpec)

end Rows
end Go.Proofs.YtjjdabihnmilgaaGreat
