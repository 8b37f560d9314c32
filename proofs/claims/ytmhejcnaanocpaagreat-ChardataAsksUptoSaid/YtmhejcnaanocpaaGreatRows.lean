/-
  No cell of these rows narrows 'for every input' (looked for: loops, veiled, ifaces, maps, wideKeys, modest, calm, conditions, laid).
  DERIVED. THE GIVEN ROWS OF THIS SEAT. 8 by the template 'for every input the law returns true; each argument reads behind the call as it read before'; 0 by the template 'total and deterministic' (their statements: YtmhejcnaanocpaaGreatTotals.lean).
  GIVEN WITH THE SEED: the statements are not yours to turn. If you find one false, say at which input.
  Laid BY PROGRAM, IN A SANDBOX (cutbox-rows.mjs): the forced cells as the released guide's own fill.sh prints them over the translation cf54fe29afbe9684… (all of the seat's roots in one cut). By AI agents, Wed Nov 11 2026. No macro, syntax, notation, axiom, sorry.
-/
import Derived.Test.YtmhejcnaanocpaaGreatChecked
import GoSem.Claim
import GoSem.ClaimJoined
import GoSem.ClaimMapViews
import Derived.JoinedTies
import Derived.KernelRfl
namespace Go.Proofs.YtmhejcnaanocpaaGreat
/- THE CELL 'sum', in the pinned program and in every row, IS THE sha256 OF THE DUMP (.gsa) THAT YtmhejcnaanocpaaGreatProg.lean LOADS. Nothing in Lean hashes anything: it is a label: what it is worth is what the hold of that sum in a sandbox is worth. -/
noncomputable def Tryz.pinned : Pinned := { name := "ytmhejcnaanocpaagreat", sum := "cf54fe29afbe9684ae1be5a4ce6e7038e2f585b043f69b6a6ed6d8384244af74", checked := Tryz.checked }
namespace Rows
def none {H : Type} : Left H := { results := [], args := [] }

/-- 'canopylaw05.ChardataSplits': WHATEVER THE INPUT: true; the input reads as it did. -/
def chardataSplitsSpec : ChangeSpec := { name := "chardataSplits", fn := fun _ => fun
  | [d1, d2, d3] => { results := [.lit (.bool true)], args := [d1, d2, d3] }
  | _ => none }
def chardataSplitsRow : OpenClaim := { program := "ytmhejcnaanocpaagreat", sum := "cf54fe29afbe9684ae1be5a4ce6e7038e2f585b043f69b6a6ed6d8384244af74", func := "canopy/canopylaw05.ChardataSplits", spec := "chardataSplits", inPlace := ["slices.overlaps[int]", "slices.overlaps[uint16]"], unfollowed := true, recurses := true, plainKeys := false, apart := false }
def ChardataSplitsSaid : Prop := chardataSplitsRow.holds Tryz.pinned (OpenSpec.ofChange chardataSplitsSpec)

/-- ITS FALSE NEIGHBOUR: 'it returns false'. Refute it at one input. -/
def chardataSplitsWrong : ChangeSpec := { name := "chardataSplits", fn := fun _ => fun
  | [d1, d2, d3] => { results := [.lit (.bool false)], args := [d1, d2, d3] }
  | _ => none }
def ChardataSplitsWrongFalsely : Prop := chardataSplitsRow.holds Tryz.pinned (OpenSpec.ofChange chardataSplitsWrong)

/-- 'canopylaw05.ChardataParts': WHATEVER THE INPUT: true; the input reads as it did. -/
def chardataPartsSpec : ChangeSpec := { name := "chardataParts", fn := fun _ => fun
  | [d1, d2, d3] => { results := [.lit (.bool true)], args := [d1, d2, d3] }
  | _ => none }
def chardataPartsRow : OpenClaim := { program := "ytmhejcnaanocpaagreat", sum := "cf54fe29afbe9684ae1be5a4ce6e7038e2f585b043f69b6a6ed6d8384244af74", func := "canopy/canopylaw05.ChardataParts", spec := "chardataParts", inPlace := ["slices.overlaps[int]", "slices.overlaps[uint16]"], unfollowed := true, recurses := true, plainKeys := false, apart := false }
def ChardataPartsSaid : Prop := chardataPartsRow.holds Tryz.pinned (OpenSpec.ofChange chardataPartsSpec)

/-- ITS FALSE NEIGHBOUR: 'it returns false'. Refute it at one input. -/
def chardataPartsWrong : ChangeSpec := { name := "chardataParts", fn := fun _ => fun
  | [d1, d2, d3] => { results := [.lit (.bool false)], args := [d1, d2, d3] }
  | _ => none }
def ChardataPartsWrongFalsely : Prop := chardataPartsRow.holds Tryz.pinned (OpenSpec.ofChange chardataPartsWrong)

/-- 'canopylaw05.ChardataReplaces': WHATEVER THE INPUT: true; the input reads as it did. -/
def chardataReplacesSpec : ChangeSpec := { name := "chardataReplaces", fn := fun _ => fun
  | [d1, d2, d3, d4, d5] => { results := [.lit (.bool true)], args := [d1, d2, d3, d4, d5] }
  | _ => none }
def chardataReplacesRow : OpenClaim := { program := "ytmhejcnaanocpaagreat", sum := "cf54fe29afbe9684ae1be5a4ce6e7038e2f585b043f69b6a6ed6d8384244af74", func := "canopy/canopylaw05.ChardataReplaces", spec := "chardataReplaces", inPlace := ["slices.overlaps[int]", "slices.overlaps[uint16]"], unfollowed := true, recurses := true, plainKeys := false, apart := false }
def ChardataReplacesSaid : Prop := chardataReplacesRow.holds Tryz.pinned (OpenSpec.ofChange chardataReplacesSpec)

/-- ITS FALSE NEIGHBOUR: 'it returns false'. Refute it at one input. -/
def chardataReplacesWrong : ChangeSpec := { name := "chardataReplaces", fn := fun _ => fun
  | [d1, d2, d3, d4, d5] => { results := [.lit (.bool false)], args := [d1, d2, d3, d4, d5] }
  | _ => none }
def ChardataReplacesWrongFalsely : Prop := chardataReplacesRow.holds Tryz.pinned (OpenSpec.ofChange chardataReplacesWrong)

/-- 'canopylaw05.ChardataSets': WHATEVER THE INPUT: true; the input reads as it did. -/
def chardataSetsSpec : ChangeSpec := { name := "chardataSets", fn := fun _ => fun
  | [d1, d2, d3] => { results := [.lit (.bool true)], args := [d1, d2, d3] }
  | _ => none }
def chardataSetsRow : OpenClaim := { program := "ytmhejcnaanocpaagreat", sum := "cf54fe29afbe9684ae1be5a4ce6e7038e2f585b043f69b6a6ed6d8384244af74", func := "canopy/canopylaw05.ChardataSets", spec := "chardataSets", inPlace := ["slices.overlaps[int]", "slices.overlaps[uint16]"], unfollowed := true, recurses := true, plainKeys := false, apart := false }
def ChardataSetsSaid : Prop := chardataSetsRow.holds Tryz.pinned (OpenSpec.ofChange chardataSetsSpec)

/-- ITS FALSE NEIGHBOUR: 'it returns false'. Refute it at one input. -/
def chardataSetsWrong : ChangeSpec := { name := "chardataSets", fn := fun _ => fun
  | [d1, d2, d3] => { results := [.lit (.bool false)], args := [d1, d2, d3] }
  | _ => none }
def ChardataSetsWrongFalsely : Prop := chardataSetsRow.holds Tryz.pinned (OpenSpec.ofChange chardataSetsWrong)

/-- 'canopylaw05.ChardataOwn': WHATEVER THE INPUT: true; the input reads as it did. -/
def chardataOwnSpec : ChangeSpec := { name := "chardataOwn", fn := fun _ => fun
  | [d1, d2, d3, d4] => { results := [.lit (.bool true)], args := [d1, d2, d3, d4] }
  | _ => none }
def chardataOwnRow : OpenClaim := { program := "ytmhejcnaanocpaagreat", sum := "cf54fe29afbe9684ae1be5a4ce6e7038e2f585b043f69b6a6ed6d8384244af74", func := "canopy/canopylaw05.ChardataOwn", spec := "chardataOwn", inPlace := ["slices.overlaps[int]", "slices.overlaps[uint16]"], unfollowed := true, recurses := true, plainKeys := false, apart := false }
def ChardataOwnSaid : Prop := chardataOwnRow.holds Tryz.pinned (OpenSpec.ofChange chardataOwnSpec)

/-- ITS FALSE NEIGHBOUR: 'it returns false'. Refute it at one input. -/
def chardataOwnWrong : ChangeSpec := { name := "chardataOwn", fn := fun _ => fun
  | [d1, d2, d3, d4] => { results := [.lit (.bool false)], args := [d1, d2, d3, d4] }
  | _ => none }
def ChardataOwnWrongFalsely : Prop := chardataOwnRow.holds Tryz.pinned (OpenSpec.ofChange chardataOwnWrong)

/-- 'canopylaw05.ChardataBack': WHATEVER THE INPUT: true; the input reads as it did. -/
def chardataBackSpec : ChangeSpec := { name := "chardataBack", fn := fun _ => fun
  | [d1, d2, d3, d4] => { results := [.lit (.bool true)], args := [d1, d2, d3, d4] }
  | _ => none }
def chardataBackRow : OpenClaim := { program := "ytmhejcnaanocpaagreat", sum := "cf54fe29afbe9684ae1be5a4ce6e7038e2f585b043f69b6a6ed6d8384244af74", func := "canopy/canopylaw05.ChardataBack", spec := "chardataBack", inPlace := ["slices.overlaps[int]", "slices.overlaps[uint16]"], unfollowed := true, recurses := true, plainKeys := false, apart := false }
def ChardataBackSaid : Prop := chardataBackRow.holds Tryz.pinned (OpenSpec.ofChange chardataBackSpec)

/-- ITS FALSE NEIGHBOUR: 'it returns false'. Refute it at one input. -/
def chardataBackWrong : ChangeSpec := { name := "chardataBack", fn := fun _ => fun
  | [d1, d2, d3, d4] => { results := [.lit (.bool false)], args := [d1, d2, d3, d4] }
  | _ => none }
def ChardataBackWrongFalsely : Prop := chardataBackRow.holds Tryz.pinned (OpenSpec.ofChange chardataBackWrong)

/-- 'canopylaw05.ChardataDone': WHATEVER THE INPUT: true; the input reads as it did. -/
def chardataDoneSpec : ChangeSpec := { name := "chardataDone", fn := fun _ => fun
  | [d1, d2, d3, d4, d5] => { results := [.lit (.bool true)], args := [d1, d2, d3, d4, d5] }
  | _ => none }
def chardataDoneRow : OpenClaim := { program := "ytmhejcnaanocpaagreat", sum := "cf54fe29afbe9684ae1be5a4ce6e7038e2f585b043f69b6a6ed6d8384244af74", func := "canopy/canopylaw05.ChardataDone", spec := "chardataDone", inPlace := ["slices.overlaps[int]", "slices.overlaps[uint16]"], unfollowed := true, recurses := true, plainKeys := false, apart := false }
def ChardataDoneSaid : Prop := chardataDoneRow.holds Tryz.pinned (OpenSpec.ofChange chardataDoneSpec)

/-- ITS FALSE NEIGHBOUR: 'it returns false'. Refute it at one input. -/
def chardataDoneWrong : ChangeSpec := { name := "chardataDone", fn := fun _ => fun
  | [d1, d2, d3, d4, d5] => { results := [.lit (.bool false)], args := [d1, d2, d3, d4, d5] }
  | _ => none }
def ChardataDoneWrongFalsely : Prop := chardataDoneRow.holds Tryz.pinned (OpenSpec.ofChange chardataDoneWrong)

/-- 'canopylaw05.ChardataAsks': WHATEVER THE INPUT: true; the input reads as it did. -/
def chardataAsksSpec : ChangeSpec := { name := "chardataAsks", fn := fun _ => fun
  | [d1, d2, d3, d4] => { results := [.lit (.bool true)], args := [d1, d2, d3, d4] }
  | _ => none }
def chardataAsksRow : OpenClaim := { program := "ytmhejcnaanocpaagreat", sum := "cf54fe29afbe9684ae1be5a4ce6e7038e2f585b043f69b6a6ed6d8384244af74", func := "canopy/canopylaw05.ChardataAsks", spec := "chardataAsks", inPlace := ["slices.overlaps[int]", "slices.overlaps[uint16]"], unfollowed := true, recurses := true, plainKeys := false, apart := false }
def ChardataAsksSaid : Prop := chardataAsksRow.holds Tryz.pinned (OpenSpec.ofChange chardataAsksSpec)

/-- ITS FALSE NEIGHBOUR: 'it returns false'. Refute it at one input. -/
def chardataAsksWrong : ChangeSpec := { name := "chardataAsks", fn := fun _ => fun
  | [d1, d2, d3, d4] => { results := [.lit (.bool false)], args := [d1, d2, d3, d4] }
  | _ => none }
def ChardataAsksWrongFalsely : Prop := chardataAsksRow.holds Tryz.pinned (OpenSpec.ofChange chardataAsksWrong)

/- THE SECOND FORM. 'bulk': how many values and letters a reading holds, each counted each time it is reached (what is shared counts as often as it is met; a slice's spare places count too). A statement '..UptoSaid' is the law's where the arguments, and the package variables that the reading takes, are together of bulk at most 1048576: NARROWER than '..Said'. Prove '..Said' where nothing that the law and all that it calls make is longer than what came in: it says more and counts as full. Else prove '..UptoSaid'. A law counts once. -/
mutual
def uptoBulk {H : Type} : DataW H → Nat
  | .lit (.string bytes) => bytes.length + 1
  | .lit _ => 1
  | .nil => 1
  | .ptr d => uptoBulk d + 1
  | .slice elems spare => uptoBulkAll elems + uptoBulkAll spare + 1
  | .agg parts => uptoBulkAll parts + 1
  | .iface _ d => uptoBulk d + 1
  | .map entries => uptoBulkEntries entries + 1
  | .held _ => 1
def uptoBulkAll {H : Type} : List (DataW H) → Nat
  | [] => 0
  | d :: r => uptoBulk d + uptoBulkAll r
def uptoBulkEntries {H : Type} : List (Lit × DataW H) → Nat
  | [] => 0
  | x :: r => uptoBulkEntry x + uptoBulkEntries r
def uptoBulkEntry {H : Type} : Lit × DataW H → Nat
  | (.string bytes, d) => bytes.length + uptoBulk d + 1
  | (_, d) => uptoBulk d + 1
 end
def uptoSmall : (H : Type) → List (DataW H) → Bool := fun _ ds => decide (uptoBulkAll ds ≤ 1048576)
def OpenSpec.upto (s : _root_.Go.ChangeSpec) : _root_.Go.OpenSpec := { _root_.Go.OpenSpec.ofChange s with cond := some uptoSmall }

/-- 'canopylaw05.ChardataSplits', WHERE WHAT IT READS IS OF BULK AT MOST 1048576: true; the input reads as it did. -/
def chardataSplitsUptoRow : OpenClaim := { program := "ytmhejcnaanocpaagreat", sum := "cf54fe29afbe9684ae1be5a4ce6e7038e2f585b043f69b6a6ed6d8384244af74", func := "canopy/canopylaw05.ChardataSplits", spec := "chardataSplits", inPlace := ["slices.overlaps[int]", "slices.overlaps[uint16]"], unfollowed := true, recurses := true, plainKeys := false, apart := false, narrowed := true }
def ChardataSplitsUptoSaid : Prop := chardataSplitsUptoRow.holds Tryz.pinned (OpenSpec.upto chardataSplitsSpec)

/-- 'canopylaw05.ChardataParts', WHERE WHAT IT READS IS OF BULK AT MOST 1048576: true; the input reads as it did. -/
def chardataPartsUptoRow : OpenClaim := { program := "ytmhejcnaanocpaagreat", sum := "cf54fe29afbe9684ae1be5a4ce6e7038e2f585b043f69b6a6ed6d8384244af74", func := "canopy/canopylaw05.ChardataParts", spec := "chardataParts", inPlace := ["slices.overlaps[int]", "slices.overlaps[uint16]"], unfollowed := true, recurses := true, plainKeys := false, apart := false, narrowed := true }
def ChardataPartsUptoSaid : Prop := chardataPartsUptoRow.holds Tryz.pinned (OpenSpec.upto chardataPartsSpec)

/-- 'canopylaw05.ChardataReplaces', WHERE WHAT IT READS IS OF BULK AT MOST 1048576: true; the input reads as it did. -/
def chardataReplacesUptoRow : OpenClaim := { program := "ytmhejcnaanocpaagreat", sum := "cf54fe29afbe9684ae1be5a4ce6e7038e2f585b043f69b6a6ed6d8384244af74", func := "canopy/canopylaw05.ChardataReplaces", spec := "chardataReplaces", inPlace := ["slices.overlaps[int]", "slices.overlaps[uint16]"], unfollowed := true, recurses := true, plainKeys := false, apart := false, narrowed := true }
def ChardataReplacesUptoSaid : Prop := chardataReplacesUptoRow.holds Tryz.pinned (OpenSpec.upto chardataReplacesSpec)

/-- 'canopylaw05.ChardataSets', WHERE WHAT IT READS IS OF BULK AT MOST 1048576: true; the input reads as it did. -/
def chardataSetsUptoRow : OpenClaim := { program := "ytmhejcnaanocpaagreat", sum := "cf54fe29afbe9684ae1be5a4ce6e7038e2f585b043f69b6a6ed6d8384244af74", func := "canopy/canopylaw05.ChardataSets", spec := "chardataSets", inPlace := ["slices.overlaps[int]", "slices.overlaps[uint16]"], unfollowed := true, recurses := true, plainKeys := false, apart := false, narrowed := true }
def ChardataSetsUptoSaid : Prop := chardataSetsUptoRow.holds Tryz.pinned (OpenSpec.upto chardataSetsSpec)

/-- 'canopylaw05.ChardataOwn', WHERE WHAT IT READS IS OF BULK AT MOST 1048576: true; the input reads as it did. -/
def chardataOwnUptoRow : OpenClaim := { program := "ytmhejcnaanocpaagreat", sum := "cf54fe29afbe9684ae1be5a4ce6e7038e2f585b043f69b6a6ed6d8384244af74", func := "canopy/canopylaw05.ChardataOwn", spec := "chardataOwn", inPlace := ["slices.overlaps[int]", "slices.overlaps[uint16]"], unfollowed := true, recurses := true, plainKeys := false, apart := false, narrowed := true }
def ChardataOwnUptoSaid : Prop := chardataOwnUptoRow.holds Tryz.pinned (OpenSpec.upto chardataOwnSpec)

/-- 'canopylaw05.ChardataBack', WHERE WHAT IT READS IS OF BULK AT MOST 1048576: true; the input reads as it did. -/
def chardataBackUptoRow : OpenClaim := { program := "ytmhejcnaanocpaagreat", sum := "cf54fe29afbe9684ae1be5a4ce6e7038e2f585b043f69b6a6ed6d8384244af74", func := "canopy/canopylaw05.ChardataBack", spec := "chardataBack", inPlace := ["slices.overlaps[int]", "slices.overlaps[uint16]"], unfollowed := true, recurses := true, plainKeys := false, apart := false, narrowed := true }
def ChardataBackUptoSaid : Prop := chardataBackUptoRow.holds Tryz.pinned (OpenSpec.upto chardataBackSpec)

/-- 'canopylaw05.ChardataDone', WHERE WHAT IT READS IS OF BULK AT MOST 1048576: true; the input reads as it did. -/
def chardataDoneUptoRow : OpenClaim := { program := "ytmhejcnaanocpaagreat", sum := "cf54fe29afbe9684ae1be5a4ce6e7038e2f585b043f69b6a6ed6d8384244af74", func := "canopy/canopylaw05.ChardataDone", spec := "chardataDone", inPlace := ["slices.overlaps[int]", "slices.overlaps[uint16]"], unfollowed := true, recurses := true, plainKeys := false, apart := false, narrowed := true }
def ChardataDoneUptoSaid : Prop := chardataDoneUptoRow.holds Tryz.pinned (OpenSpec.upto chardataDoneSpec)

/-- 'canopylaw05.ChardataAsks', WHERE WHAT IT READS IS OF BULK AT MOST 1048576: true; the input reads as it did. -/
def chardataAsksUptoRow : OpenClaim := { program := "ytmhejcnaanocpaagreat", sum := "cf54fe29afbe9684ae1be5a4ce6e7038e2f585b043f69b6a6ed6d8384244af74", func := "canopy/canopylaw05.ChardataAsks", spec := "chardataAsks", inPlace := ["slices.overlaps[int]", "slices.overlaps[uint16]"], unfollowed := true, recurses := true, plainKeys := false, apart := false, narrowed := true }
def ChardataAsksUptoSaid : Prop := chardataAsksUptoRow.holds Tryz.pinned (OpenSpec.upto chardataAsksSpec)

end Rows
end Go.Proofs.YtmhejcnaanocpaaGreat
