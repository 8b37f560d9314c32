/-
  No cell of these rows narrows 'for every input' (looked for: loops, veiled, ifaces, maps, wideKeys, modest, calm, conditions, laid).
  DERIVED. THE GIVEN ROWS OF THIS SEAT. 7 by the template 'for every input the law returns true; each argument reads behind the call as it read before'; 0 by the template 'total and deterministic' (their statements: YtgjifcflkcpnlaaTotals.lean).
  GIVEN WITH THE SEED: the statements are not yours to turn. If you find one false, say at which input.
  Laid BY PROGRAM, IN A SANDBOX (cutbox-rows.mjs): the forced cells as the released guide's own fill.sh prints them over the translation cea76e4cab27b0fd… (all of the seat's roots in one cut). By AI agents, Wed Nov 11 2026. No macro, syntax, notation, axiom, sorry.
-/
import Derived.Test.YtgjifcflkcpnlaaChecked
import GoSem.Claim
import GoSem.ClaimJoined
import GoSem.ClaimMapViews
import Derived.JoinedTies
import Derived.KernelRfl
namespace Go.Proofs.Ytgjifcflkcpnlaa
/- THE CELL 'sum', in the pinned program and in every row, IS THE sha256 OF THE DUMP (.gsa) THAT YtgjifcflkcpnlaaProg.lean LOADS. Nothing in Lean hashes anything: it is a label: what it is worth is what the hold of that sum in a sandbox is worth. -/
noncomputable def Try.pinned : Pinned := { name := "ytgjifcflkcpnlaa", sum := "cea76e4cab27b0fd42b87116bf6c51b5136d3b00d42b1983610d4c6cdb40973f", checked := Try.checked }
namespace Rows
def none {H : Type} : Left H := { results := [], args := [] }

/-- 'canopylaw01.UnitsBack': WHATEVER THE INPUT: true; the input reads as it did. -/
def unitsBackSpec : ChangeSpec := { name := "unitsBack", fn := fun _ => fun
  | [d1, d2] => { results := [.lit (.bool true)], args := [d1, d2] }
  | _ => none }
def unitsBackRow : OpenClaim := { program := "ytgjifcflkcpnlaa", sum := "cea76e4cab27b0fd42b87116bf6c51b5136d3b00d42b1983610d4c6cdb40973f", func := "canopy/canopylaw01.UnitsBack", spec := "unitsBack", inPlace := ["internal/abi.NoEscape"], unfollowed := true, recurses := true, apart := false }
def UnitsBackSaid : Prop := unitsBackRow.holds Try.pinned (OpenSpec.ofChange unitsBackSpec)

/-- ITS FALSE NEIGHBOUR: 'it returns false'. Refute it at one input. -/
def unitsBackWrong : ChangeSpec := { name := "unitsBack", fn := fun _ => fun
  | [d1, d2] => { results := [.lit (.bool false)], args := [d1, d2] }
  | _ => none }
def UnitsBackWrongFalsely : Prop := unitsBackRow.holds Try.pinned (OpenSpec.ofChange unitsBackWrong)

/-- 'canopylaw01.UnitsTexts': WHATEVER THE INPUT: true; the input reads as it did. -/
def unitsTextsSpec : ChangeSpec := { name := "unitsTexts", fn := fun _ => fun
  | [d1, d2, d3] => { results := [.lit (.bool true)], args := [d1, d2, d3] }
  | _ => none }
def unitsTextsRow : OpenClaim := { program := "ytgjifcflkcpnlaa", sum := "cea76e4cab27b0fd42b87116bf6c51b5136d3b00d42b1983610d4c6cdb40973f", func := "canopy/canopylaw01.UnitsTexts", spec := "unitsTexts", inPlace := ["internal/abi.NoEscape"], unfollowed := true, recurses := true, apart := false }
def UnitsTextsSaid : Prop := unitsTextsRow.holds Try.pinned (OpenSpec.ofChange unitsTextsSpec)

/-- ITS FALSE NEIGHBOUR: 'it returns false'. Refute it at one input. -/
def unitsTextsWrong : ChangeSpec := { name := "unitsTexts", fn := fun _ => fun
  | [d1, d2, d3] => { results := [.lit (.bool false)], args := [d1, d2, d3] }
  | _ => none }
def UnitsTextsWrongFalsely : Prop := unitsTextsRow.holds Try.pinned (OpenSpec.ofChange unitsTextsWrong)

/-- 'canopylaw01.UnitsCuts': WHATEVER THE INPUT: true; the input reads as it did. -/
def unitsCutsSpec : ChangeSpec := { name := "unitsCuts", fn := fun _ => fun
  | [d1, d2, d3, d4, d5] => { results := [.lit (.bool true)], args := [d1, d2, d3, d4, d5] }
  | _ => none }
def unitsCutsRow : OpenClaim := { program := "ytgjifcflkcpnlaa", sum := "cea76e4cab27b0fd42b87116bf6c51b5136d3b00d42b1983610d4c6cdb40973f", func := "canopy/canopylaw01.UnitsCuts", spec := "unitsCuts", inPlace := ["internal/abi.NoEscape"], unfollowed := true, recurses := true, apart := false }
def UnitsCutsSaid : Prop := unitsCutsRow.holds Try.pinned (OpenSpec.ofChange unitsCutsSpec)

/-- ITS FALSE NEIGHBOUR: 'it returns false'. Refute it at one input. -/
def unitsCutsWrong : ChangeSpec := { name := "unitsCuts", fn := fun _ => fun
  | [d1, d2, d3, d4, d5] => { results := [.lit (.bool false)], args := [d1, d2, d3, d4, d5] }
  | _ => none }
def UnitsCutsWrongFalsely : Prop := unitsCutsRow.holds Try.pinned (OpenSpec.ofChange unitsCutsWrong)

/-- 'canopylaw01.UnitsParts': WHATEVER THE INPUT: true; the input reads as it did. -/
def unitsPartsSpec : ChangeSpec := { name := "unitsParts", fn := fun _ => fun
  | [d1, d2, d3] => { results := [.lit (.bool true)], args := [d1, d2, d3] }
  | _ => none }
def unitsPartsRow : OpenClaim := { program := "ytgjifcflkcpnlaa", sum := "cea76e4cab27b0fd42b87116bf6c51b5136d3b00d42b1983610d4c6cdb40973f", func := "canopy/canopylaw01.UnitsParts", spec := "unitsParts", inPlace := ["internal/abi.NoEscape"], unfollowed := true, recurses := true, apart := false }
def UnitsPartsSaid : Prop := unitsPartsRow.holds Try.pinned (OpenSpec.ofChange unitsPartsSpec)

/-- ITS FALSE NEIGHBOUR: 'it returns false'. Refute it at one input. -/
def unitsPartsWrong : ChangeSpec := { name := "unitsParts", fn := fun _ => fun
  | [d1, d2, d3] => { results := [.lit (.bool false)], args := [d1, d2, d3] }
  | _ => none }
def UnitsPartsWrongFalsely : Prop := unitsPartsRow.holds Try.pinned (OpenSpec.ofChange unitsPartsWrong)

/-- 'canopylaw01.UnitsOwn': WHATEVER THE INPUT: true; the input reads as it did. -/
def unitsOwnSpec : ChangeSpec := { name := "unitsOwn", fn := fun _ => fun
  | [d1, d2, d3] => { results := [.lit (.bool true)], args := [d1, d2, d3] }
  | _ => none }
def unitsOwnRow : OpenClaim := { program := "ytgjifcflkcpnlaa", sum := "cea76e4cab27b0fd42b87116bf6c51b5136d3b00d42b1983610d4c6cdb40973f", func := "canopy/canopylaw01.UnitsOwn", spec := "unitsOwn", inPlace := ["internal/abi.NoEscape"], unfollowed := true, recurses := true, apart := false }
def UnitsOwnSaid : Prop := unitsOwnRow.holds Try.pinned (OpenSpec.ofChange unitsOwnSpec)

/-- ITS FALSE NEIGHBOUR: 'it returns false'. Refute it at one input. -/
def unitsOwnWrong : ChangeSpec := { name := "unitsOwn", fn := fun _ => fun
  | [d1, d2, d3] => { results := [.lit (.bool false)], args := [d1, d2, d3] }
  | _ => none }
def UnitsOwnWrongFalsely : Prop := unitsOwnRow.holds Try.pinned (OpenSpec.ofChange unitsOwnWrong)

/-- 'canopylaw01.UnitsWords': WHATEVER THE INPUT: true; the input reads as it did. -/
def unitsWordsSpec : ChangeSpec := { name := "unitsWords", fn := fun _ => fun
  | [d1, d2, d3, d4] => { results := [.lit (.bool true)], args := [d1, d2, d3, d4] }
  | _ => none }
def unitsWordsRow : OpenClaim := { program := "ytgjifcflkcpnlaa", sum := "cea76e4cab27b0fd42b87116bf6c51b5136d3b00d42b1983610d4c6cdb40973f", func := "canopy/canopylaw01.UnitsWords", spec := "unitsWords", inPlace := ["internal/abi.NoEscape", "internal/bytealg.MakeNoZero"], unfollowed := true, recurses := true, apart := false }
def UnitsWordsSaid : Prop := unitsWordsRow.holds Try.pinned (OpenSpec.ofChange unitsWordsSpec)

/-- ITS FALSE NEIGHBOUR: 'it returns false'. Refute it at one input. -/
def unitsWordsWrong : ChangeSpec := { name := "unitsWords", fn := fun _ => fun
  | [d1, d2, d3, d4] => { results := [.lit (.bool false)], args := [d1, d2, d3, d4] }
  | _ => none }
def UnitsWordsWrongFalsely : Prop := unitsWordsRow.holds Try.pinned (OpenSpec.ofChange unitsWordsWrong)

/-- 'canopylaw01.UnitsOnce': WHATEVER THE INPUT: true; the input reads as it did. -/
def unitsOnceSpec : ChangeSpec := { name := "unitsOnce", fn := fun _ => fun
  | [d1, d2] => { results := [.lit (.bool true)], args := [d1, d2] }
  | _ => none }
def unitsOnceRow : OpenClaim := { program := "ytgjifcflkcpnlaa", sum := "cea76e4cab27b0fd42b87116bf6c51b5136d3b00d42b1983610d4c6cdb40973f", func := "canopy/canopylaw01.UnitsOnce", spec := "unitsOnce", inPlace := ["internal/abi.NoEscape", "internal/bytealg.MakeNoZero"], unfollowed := true, recurses := true, apart := false }
def UnitsOnceSaid : Prop := unitsOnceRow.holds Try.pinned (OpenSpec.ofChange unitsOnceSpec)

/-- ITS FALSE NEIGHBOUR: 'it returns false'. Refute it at one input. -/
def unitsOnceWrong : ChangeSpec := { name := "unitsOnce", fn := fun _ => fun
  | [d1, d2] => { results := [.lit (.bool false)], args := [d1, d2] }
  | _ => none }
def UnitsOnceWrongFalsely : Prop := unitsOnceRow.holds Try.pinned (OpenSpec.ofChange unitsOnceWrong)

/- THE SECOND FORM. 'bulk': how many values and letters a reading holds, each counted each time it is reached (what is shared counts as often as it is met; a slice's spare places count too). A statement '..UptoSaid' is the law's where the arguments, and the package variables that the reading takes, are together of bulk at most 1048576: NARROWER than '..Said'. Prove '..Said' where nothing that the law and all that it calls make is longer than what came in: it says more and counts as full. Else prove '..UptoSaid'. A law counts once. -/
mutual
def uptoBulk {H : Type} : DataW H → Nat
  | .lit (.string bytes) => bytes.length + 1
  | .lit _ => 1
  | .nil => 1
  | .ptr d => uptoBulk d + 1
  | .slice elems spare => uptoBulkAll elems + uptoBulkAll spare + 1
  | .agg parts => uptoBulkAll parts + 1
  | .iface _ d => uptoBulk d + 1
  | .map entries => uptoBulkEntries entries + 1
  | .held _ => 1
def uptoBulkAll {H : Type} : List (DataW H) → Nat
  | [] => 0
  | d :: r => uptoBulk d + uptoBulkAll r
def uptoBulkEntries {H : Type} : List (Lit × DataW H) → Nat
  | [] => 0
  | x :: r => uptoBulkEntry x + uptoBulkEntries r
def uptoBulkEntry {H : Type} : Lit × DataW H → Nat
  | (.string bytes, d) => bytes.length + uptoBulk d + 1
  | (_, d) => uptoBulk d + 1
 end
def uptoSmall : (H : Type) → List (DataW H) → Bool := fun _ ds => decide (uptoBulkAll ds ≤ 1048576)
def OpenSpec.upto (s : _root_.Go.ChangeSpec) : _root_.Go.OpenSpec := { _root_.Go.OpenSpec.ofChange s with cond := some uptoSmall }

/-- 'canopylaw01.UnitsBack', WHERE WHAT IT READS IS OF BULK AT MOST 1048576: true; the input reads as it did. -/
def unitsBackUptoRow : OpenClaim := { program := "ytgjifcflkcpnlaa", sum := "cea76e4cab27b0fd42b87116bf6c51b5136d3b00d42b1983610d4c6cdb40973f", func := "canopy/canopylaw01.UnitsBack", spec := "unitsBack", inPlace := ["internal/abi.NoEscape"], unfollowed := true, recurses := true, apart := false, narrowed := true }
def UnitsBackUptoSaid : Prop := unitsBackUptoRow.holds Try.pinned (OpenSpec.upto unitsBackSpec)

/-- 'canopylaw01.UnitsTexts', WHERE WHAT IT READS IS OF BULK AT MOST 1048576: true; the input reads as it did. -/
def unitsTextsUptoRow : OpenClaim := { program := "ytgjifcflkcpnlaa", sum := "cea76e4cab27b0fd42b87116bf6c51b5136d3b00d42b1983610d4c6cdb40973f", func := "canopy/canopylaw01.UnitsTexts", spec := "unitsTexts", inPlace := ["internal/abi.NoEscape"], unfollowed := true, recurses := true, apart := false, narrowed := true }
def UnitsTextsUptoSaid : Prop := unitsTextsUptoRow.holds Try.pinned (OpenSpec.upto unitsTextsSpec)

/-- 'canopylaw01.UnitsCuts', WHERE WHAT IT READS IS OF BULK AT MOST 1048576: true; the input reads as it did. -/
def unitsCutsUptoRow : OpenClaim := { program := "ytgjifcflkcpnlaa", sum := "cea76e4cab27b0fd42b87116bf6c51b5136d3b00d42b1983610d4c6cdb40973f", func := "canopy/canopylaw01.UnitsCuts", spec := "unitsCuts", inPlace := ["internal/abi.NoEscape"], unfollowed := true, recurses := true, apart := false, narrowed := true }
def UnitsCutsUptoSaid : Prop := unitsCutsUptoRow.holds Try.pinned (OpenSpec.upto unitsCutsSpec)

/-- 'canopylaw01.UnitsParts', WHERE WHAT IT READS IS OF BULK AT MOST 1048576: true; the input reads as it did. -/
def unitsPartsUptoRow : OpenClaim := { program := "ytgjifcflkcpnlaa", sum := "cea76e4cab27b0fd42b87116bf6c51b5136d3b00d42b1983610d4c6cdb40973f", func := "canopy/canopylaw01.UnitsParts", spec := "unitsParts", inPlace := ["internal/abi.NoEscape"], unfollowed := true, recurses := true, apart := false, narrowed := true }
def UnitsPartsUptoSaid : Prop := unitsPartsUptoRow.holds Try.pinned (OpenSpec.upto unitsPartsSpec)

/-- 'canopylaw01.UnitsOwn', WHERE WHAT IT READS IS OF BULK AT MOST 1048576: true; the input reads as it did. -/
def unitsOwnUptoRow : OpenClaim := { program := "ytgjifcflkcpnlaa", sum := "cea76e4cab27b0fd42b87116bf6c51b5136d3b00d42b1983610d4c6cdb40973f", func := "canopy/canopylaw01.UnitsOwn", spec := "unitsOwn", inPlace := ["internal/abi.NoEscape"], unfollowed := true, recurses := true, apart := false, narrowed := true }
def UnitsOwnUptoSaid : Prop := unitsOwnUptoRow.holds Try.pinned (OpenSpec.upto unitsOwnSpec)

/-- 'canopylaw01.UnitsWords', WHERE WHAT IT READS IS OF BULK AT MOST 1048576: true; the input reads as it did. -/
def unitsWordsUptoRow : OpenClaim := { program := "ytgjifcflkcpnlaa", sum := "cea76e4cab27b0fd42b87116bf6c51b5136d3b00d42b1983610d4c6cdb40973f", func := "canopy/canopylaw01.UnitsWords", spec := "unitsWords", inPlace := ["internal/abi.NoEscape", "internal/bytealg.MakeNoZero"], unfollowed := true, recurses := true, apart := false, narrowed := true }
def UnitsWordsUptoSaid : Prop := unitsWordsUptoRow.holds Try.pinned (OpenSpec.upto unitsWordsSpec)

/-- 'canopylaw01.UnitsOnce', WHERE WHAT IT READS IS OF BULK AT MOST 1048576: true; the input reads as it did. -/
def unitsOnceUptoRow : OpenClaim := { program := "ytgjifcflkcpnlaa", sum := "cea76e4cab27b0fd42b87116bf6c51b5136d3b00d42b1983610d4c6cdb40973f", func := "canopy/canopylaw01.UnitsOnce", spec := "unitsOnce", inPlace := ["internal/abi.NoEscape", "internal/bytealg.MakeNoZero"], unfollowed := true, recurses := true, apart := false, narrowed := true }
def UnitsOnceUptoSaid : Prop := unitsOnceUptoRow.holds Try.pinned (OpenSpec.upto unitsOnceSpec)

end Rows
end Go.Proofs.Ytgjifcflkcpnlaa
