/-
  No cell of these rows narrows 'for every input' (looked for: loops, veiled, ifaces, maps, wideKeys, modest, calm, conditions, laid).
  DERIVED. THE GIVEN ROWS OF THIS SEAT. 7 by the template 'for every input the law returns true; each argument reads behind the call as it read before'; 0 by the template 'total and deterministic' (their statements: YteijifoobaoclaaGreatTotals.lean).
  GIVEN WITH THE SEED: the statements are not yours to turn. If you find one false, say at which input.
  Laid BY PROGRAM, IN A SANDBOX (cutbox-rows.mjs): the forced cells as the released guide's own fill.sh prints them over the translation a7d29b1913be8726… (all of the seat's roots in one cut). By AI agents, Wed Nov 11 2026. No macro, syntax, notation, axiom, sorry.
-/
import Derived.Test.YteijifoobaoclaaGreatChecked
import GoSem.Claim
import GoSem.ClaimJoined
import GoSem.ClaimMapViews
import Derived.JoinedTies
import Derived.KernelRfl
namespace Go.Proofs.YteijifoobaoclaaGreat
/- THE CELL 'sum', in the pinned program and in every row, IS THE sha256 OF THE DUMP (.gsa) THAT YteijifoobaoclaaGreatProg.lean LOADS. Nothing in Lean hashes anything: it is a label: what it is worth is what the hold of that sum in a sandbox is worth. -/
noncomputable def Tryz.pinned : Pinned := { name := "yteijifoobaoclaagreat", sum := "a7d29b1913be8726d954acee6f285416a29ace924d63c8c3c1af58c2a1919f96", checked := Tryz.checked }
namespace Rows
def none {H : Type} : Left H := { results := [], args := [] }

/-- 'canopylaw10.CloneCopies': WHATEVER THE INPUT: true; the input reads as it did. -/
def cloneCopiesSpec : ChangeSpec := { name := "cloneCopies", fn := fun _ => fun
  | [d1, d2, d3] => { results := [.lit (.bool true)], args := [d1, d2, d3] }
  | _ => none }
def cloneCopiesRow : OpenClaim := { program := "yteijifoobaoclaagreat", sum := "a7d29b1913be8726d954acee6f285416a29ace924d63c8c3c1af58c2a1919f96", func := "canopy/canopylaw10.CloneCopies", spec := "cloneCopies", inPlace := ["slices.overlaps[int]", "slices.overlaps[uint16]"], unfollowed := true, recurses := true, plainKeys := false, apart := false }
def CloneCopiesSaid : Prop := cloneCopiesRow.holds Tryz.pinned (OpenSpec.ofChange cloneCopiesSpec)

/-- ITS FALSE NEIGHBOUR: 'it returns false'. Refute it at one input. -/
def cloneCopiesWrong : ChangeSpec := { name := "cloneCopies", fn := fun _ => fun
  | [d1, d2, d3] => { results := [.lit (.bool false)], args := [d1, d2, d3] }
  | _ => none }
def CloneCopiesWrongFalsely : Prop := cloneCopiesRow.holds Tryz.pinned (OpenSpec.ofChange cloneCopiesWrong)

/-- 'canopylaw10.CloneImports': WHATEVER THE INPUT: true; the input reads as it did. -/
def cloneImportsSpec : ChangeSpec := { name := "cloneImports", fn := fun _ => fun
  | [d1, d2, d3, d4] => { results := [.lit (.bool true)], args := [d1, d2, d3, d4] }
  | _ => none }
def cloneImportsRow : OpenClaim := { program := "yteijifoobaoclaagreat", sum := "a7d29b1913be8726d954acee6f285416a29ace924d63c8c3c1af58c2a1919f96", func := "canopy/canopylaw10.CloneImports", spec := "cloneImports", inPlace := ["slices.overlaps[int]", "slices.overlaps[uint16]"], unfollowed := true, recurses := true, plainKeys := false, apart := false }
def CloneImportsSaid : Prop := cloneImportsRow.holds Tryz.pinned (OpenSpec.ofChange cloneImportsSpec)

/-- ITS FALSE NEIGHBOUR: 'it returns false'. Refute it at one input. -/
def cloneImportsWrong : ChangeSpec := { name := "cloneImports", fn := fun _ => fun
  | [d1, d2, d3, d4] => { results := [.lit (.bool false)], args := [d1, d2, d3, d4] }
  | _ => none }
def CloneImportsWrongFalsely : Prop := cloneImportsRow.holds Tryz.pinned (OpenSpec.ofChange cloneImportsWrong)

/-- 'canopylaw10.CloneEquals': WHATEVER THE INPUT: true; the input reads as it did. -/
def cloneEqualsSpec : ChangeSpec := { name := "cloneEquals", fn := fun _ => fun
  | [d1, d2, d3] => { results := [.lit (.bool true)], args := [d1, d2, d3] }
  | _ => none }
def cloneEqualsRow : OpenClaim := { program := "yteijifoobaoclaagreat", sum := "a7d29b1913be8726d954acee6f285416a29ace924d63c8c3c1af58c2a1919f96", func := "canopy/canopylaw10.CloneEquals", spec := "cloneEquals", inPlace := ["slices.overlaps[int]", "slices.overlaps[uint16]"], unfollowed := true, recurses := true, plainKeys := false, apart := false }
def CloneEqualsSaid : Prop := cloneEqualsRow.holds Tryz.pinned (OpenSpec.ofChange cloneEqualsSpec)

/-- ITS FALSE NEIGHBOUR: 'it returns false'. Refute it at one input. -/
def cloneEqualsWrong : ChangeSpec := { name := "cloneEquals", fn := fun _ => fun
  | [d1, d2, d3] => { results := [.lit (.bool false)], args := [d1, d2, d3] }
  | _ => none }
def CloneEqualsWrongFalsely : Prop := cloneEqualsRow.holds Tryz.pinned (OpenSpec.ofChange cloneEqualsWrong)

/-- 'canopylaw10.CloneEqual': WHATEVER THE INPUT: true; the input reads as it did. -/
def cloneEqualSpec : ChangeSpec := { name := "cloneEqual", fn := fun _ => fun
  | [d1, d2, d3] => { results := [.lit (.bool true)], args := [d1, d2, d3] }
  | _ => none }
def cloneEqualRow : OpenClaim := { program := "yteijifoobaoclaagreat", sum := "a7d29b1913be8726d954acee6f285416a29ace924d63c8c3c1af58c2a1919f96", func := "canopy/canopylaw10.CloneEqual", spec := "cloneEqual", inPlace := ["slices.overlaps[int]", "slices.overlaps[uint16]"], unfollowed := true, recurses := true, plainKeys := false, apart := false }
def CloneEqualSaid : Prop := cloneEqualRow.holds Tryz.pinned (OpenSpec.ofChange cloneEqualSpec)

/-- ITS FALSE NEIGHBOUR: 'it returns false'. Refute it at one input. -/
def cloneEqualWrong : ChangeSpec := { name := "cloneEqual", fn := fun _ => fun
  | [d1, d2, d3] => { results := [.lit (.bool false)], args := [d1, d2, d3] }
  | _ => none }
def CloneEqualWrongFalsely : Prop := cloneEqualRow.holds Tryz.pinned (OpenSpec.ofChange cloneEqualWrong)

/-- 'canopylaw10.CloneApart': WHATEVER THE INPUT: true; the input reads as it did. -/
def cloneApartSpec : ChangeSpec := { name := "cloneApart", fn := fun _ => fun
  | [d1, d2, d3, d4] => { results := [.lit (.bool true)], args := [d1, d2, d3, d4] }
  | _ => none }
def cloneApartRow : OpenClaim := { program := "yteijifoobaoclaagreat", sum := "a7d29b1913be8726d954acee6f285416a29ace924d63c8c3c1af58c2a1919f96", func := "canopy/canopylaw10.CloneApart", spec := "cloneApart", inPlace := ["slices.overlaps[int]", "slices.overlaps[uint16]"], unfollowed := true, recurses := true, plainKeys := false, apart := false }
def CloneApartSaid : Prop := cloneApartRow.holds Tryz.pinned (OpenSpec.ofChange cloneApartSpec)

/-- ITS FALSE NEIGHBOUR: 'it returns false'. Refute it at one input. -/
def cloneApartWrong : ChangeSpec := { name := "cloneApart", fn := fun _ => fun
  | [d1, d2, d3, d4] => { results := [.lit (.bool false)], args := [d1, d2, d3, d4] }
  | _ => none }
def CloneApartWrongFalsely : Prop := cloneApartRow.holds Tryz.pinned (OpenSpec.ofChange cloneApartWrong)

/-- 'canopylaw10.CloneEquality': WHATEVER THE INPUT: true; the input reads as it did. -/
def cloneEqualitySpec : ChangeSpec := { name := "cloneEquality", fn := fun _ => fun
  | [d1, d2, d3, d4] => { results := [.lit (.bool true)], args := [d1, d2, d3, d4] }
  | _ => none }
def cloneEqualityRow : OpenClaim := { program := "yteijifoobaoclaagreat", sum := "a7d29b1913be8726d954acee6f285416a29ace924d63c8c3c1af58c2a1919f96", func := "canopy/canopylaw10.CloneEquality", spec := "cloneEquality", inPlace := ["slices.overlaps[int]", "slices.overlaps[uint16]"], unfollowed := true, recurses := true, plainKeys := false, apart := false }
def CloneEqualitySaid : Prop := cloneEqualityRow.holds Tryz.pinned (OpenSpec.ofChange cloneEqualitySpec)

/-- ITS FALSE NEIGHBOUR: 'it returns false'. Refute it at one input. -/
def cloneEqualityWrong : ChangeSpec := { name := "cloneEquality", fn := fun _ => fun
  | [d1, d2, d3, d4] => { results := [.lit (.bool false)], args := [d1, d2, d3, d4] }
  | _ => none }
def CloneEqualityWrongFalsely : Prop := cloneEqualityRow.holds Tryz.pinned (OpenSpec.ofChange cloneEqualityWrong)

/-- 'canopylaw10.CloneChanges': WHATEVER THE INPUT: true; the input reads as it did. -/
def cloneChangesSpec : ChangeSpec := { name := "cloneChanges", fn := fun _ => fun
  | [d1, d2, d3] => { results := [.lit (.bool true)], args := [d1, d2, d3] }
  | _ => none }
def cloneChangesRow : OpenClaim := { program := "yteijifoobaoclaagreat", sum := "a7d29b1913be8726d954acee6f285416a29ace924d63c8c3c1af58c2a1919f96", func := "canopy/canopylaw10.CloneChanges", spec := "cloneChanges", inPlace := ["slices.overlaps[int]", "slices.overlaps[uint16]"], unfollowed := true, recurses := true, plainKeys := false, apart := false }
def CloneChangesSaid : Prop := cloneChangesRow.holds Tryz.pinned (OpenSpec.ofChange cloneChangesSpec)

/-- ITS FALSE NEIGHBOUR: 'it returns false'. Refute it at one input. -/
def cloneChangesWrong : ChangeSpec := { name := "cloneChanges", fn := fun _ => fun
  | [d1, d2, d3] => { results := [.lit (.bool false)], args := [d1, d2, d3] }
  | _ => none }
def CloneChangesWrongFalsely : Prop := cloneChangesRow.holds Tryz.pinned (OpenSpec.ofChange cloneChangesWrong)

/- THE SECOND FORM. 'bulk': how many values and letters a reading holds, each counted each time it is reached (what is shared counts as often as it is met; a slice's spare places count too). A statement '..UptoSaid' is the law's where the arguments, and the package variables that the reading takes, are together of bulk at most 1048576: NARROWER than '..Said'. Prove '..Said' where nothing that the law and all that it calls make is longer than what came in: it says more and counts as full. Else prove '..UptoSaid'. A law counts once. -/
mutual
def uptoBulk {H : Type} : DataW H → Nat
  | .lit (.string bytes) => bytes.length + 1
  | .lit _ => 1
  | .nil => 1
  | .ptr d => uptoBulk d + 1
  | .slice elems spare => uptoBulkAll elems + uptoBulkAll spare + 1
  | .agg parts => uptoBulkAll parts + 1
  | .iface _ d => uptoBulk d + 1
  | .map entries => uptoBulkEntries entries + 1
  | .held _ => 1
def uptoBulkAll {H : Type} : List (DataW H) → Nat
  | [] => 0
  | d :: r => uptoBulk d + uptoBulkAll r
def uptoBulkEntries {H : Type} : List (Lit × DataW H) → Nat
  | [] => 0
  | x :: r => uptoBulkEntry x + uptoBulkEntries r
def uptoBulkEntry {H : Type} : Lit × DataW H → Nat
  | (.string bytes, d) => bytes.length + uptoBulk d + 1
  | (_, d) => uptoBulk d + 1
 end
def uptoSmall : (H : Type) → List (DataW H) → Bool := fun _ ds => decide (uptoBulkAll ds ≤ 1048576)
def OpenSpec.upto (s : _root_.Go.ChangeSpec) : _root_.Go.OpenSpec := { _root_.Go.OpenSpec.ofChange s with cond := some uptoSmall }

/-- 'canopylaw10.CloneCopies', WHERE WHAT IT READS IS OF BULK AT MOST 1048576: true; the input reads as it did. -/
def cloneCopiesUptoRow : OpenClaim := { program := "yteijifoobaoclaagreat", sum := "a7d29b1913be8726d954acee6f285416a29ace924d63c8c3c1af58c2a1919f96", func := "canopy/canopylaw10.CloneCopies", spec := "cloneCopies", inPlace := ["slices.overlaps[int]", "slices.overlaps[uint16]"], unfollowed := true, recurses := true, plainKeys := false, apart := false, narrowed := true }
def CloneCopiesUptoSaid : Prop := cloneCopiesUptoRow.holds Tryz.pinned (OpenSpec.upto cloneCopiesSpec)

/-- 'canopylaw10.CloneImports', WHERE WHAT IT READS IS OF BULK AT MOST 1048576: true; the input reads as it did. -/
def cloneImportsUptoRow : OpenClaim := { program := "yteijifoobaoclaagreat", sum := "a7d29b1913be8726d954acee6f285416a29ace924d63c8c3c1af58c2a1919f96", func := "canopy/canopylaw10.CloneImports", spec := "cloneImports", inPlace := ["slices.overlaps[int]", "slices.overlaps[uint16]"], unfollowed := true, recurses := true, plainKeys := false, apart := false, narrowed := true }
def CloneImportsUptoSaid : Prop := cloneImportsUptoRow.holds Tryz.pinned (OpenSpec.upto cloneImportsSpec)

/-- 'canopylaw10.CloneEquals', WHERE WHAT IT READS IS OF BULK AT MOST 1048576: true; the input reads as it did. -/
def cloneEqualsUptoRow : OpenClaim := { program := "yteijifoobaoclaagreat", sum := "a7d29b1913be8726d954acee6f285416a29ace924d63c8c3c1af58c2a1919f96", func := "canopy/canopylaw10.CloneEquals", spec := "cloneEquals", inPlace := ["slices.overlaps[int]", "slices.overlaps[uint16]"], unfollowed := true, recurses := true, plainKeys := false, apart := false, narrowed := true }
def CloneEqualsUptoSaid : Prop := cloneEqualsUptoRow.holds Tryz.pinned (OpenSpec.upto cloneEqualsSpec)

/-- 'canopylaw10.CloneEqual', WHERE WHAT IT READS IS OF BULK AT MOST 1048576: true; the input reads as it did. -/
def cloneEqualUptoRow : OpenClaim := { program := "yteijifoobaoclaagreat", sum := "a7d29b1913be8726d954acee6f285416a29ace924d63c8c3c1af58c2a1919f96", func := "canopy/canopylaw10.CloneEqual", spec := "cloneEqual", inPlace := ["slices.overlaps[int]", "slices.overlaps[uint16]"], unfollowed := true, recurses := true, plainKeys := false, apart := false, narrowed := true }
def CloneEqualUptoSaid : Prop := cloneEqualUptoRow.holds Tryz.pinned (OpenSpec.upto cloneEqualSpec)

/-- 'canopylaw10.CloneApart', WHERE WHAT IT READS IS OF BULK AT MOST 1048576: true; the input reads as it did. -/
def cloneApartUptoRow : OpenClaim := { program := "yteijifoobaoclaagreat", sum := "a7d29b1913be8726d954acee6f285416a29ace924d63c8c3c1af58c2a1919f96", func := "canopy/canopylaw10.CloneApart", spec := "cloneApart", inPlace := ["slices.overlaps[int]", "slices.overlaps[uint16]"], unfollowed := true, recurses := true, plainKeys := false, apart := false, narrowed := true }
def CloneApartUptoSaid : Prop := cloneApartUptoRow.holds Tryz.pinned (OpenSpec.upto cloneApartSpec)

/-- 'canopylaw10.CloneEquality', WHERE WHAT IT READS IS OF BULK AT MOST 1048576: true; the input reads as it did. -/
def cloneEqualityUptoRow : OpenClaim := { program := "yteijifoobaoclaagreat", sum := "a7d29b1913be8726d954acee6f285416a29ace924d63c8c3c1af58c2a1919f96", func := "canopy/canopylaw10.CloneEquality", spec := "cloneEquality", inPlace := ["slices.overlaps[int]", "slices.overlaps[uint16]"], unfollowed := true, recurses := true, plainKeys := false, apart := false, narrowed := true }
def CloneEqualityUptoSaid : Prop := cloneEqualityUptoRow.holds Tryz.pinned (OpenSpec.upto cloneEqualitySpec)

/-- 'canopylaw10.CloneChanges', WHERE WHAT IT READS IS OF BULK AT MOST 1048576: true; the input reads as it did. -/
def cloneChangesUptoRow : OpenClaim := { program := "yteijifoobaoclaagreat", sum := "a7d29b1913be8726d954acee6f285416a29ace924d63c8c3c1af58c2a1919f96", func := "canopy/canopylaw10.CloneChanges", spec := "cloneChanges", inPlace := ["slices.overlaps[int]", "slices.overlaps[uint16]"], unfollowed := true, recurses := true, plainKeys := false, apart := false, narrowed := true }
def CloneChangesUptoSaid : Prop := cloneChangesUptoRow.holds Tryz.pinned (OpenSpec.upto cloneChangesSpec)

end Rows
end Go.Proofs.YteijifoobaoclaaGreat
