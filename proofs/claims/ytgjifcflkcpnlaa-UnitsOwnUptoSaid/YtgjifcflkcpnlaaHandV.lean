/- Small laws that the printed and the hand-made walks of this seat share. -/
import Derived.Test.YtgjifcflkcpnlaaProg
import Derived.Below
import Derived.Deep.Draws
import Derived.Deep.AppendLies
import Derived.Maps.AppendAt
import Derived.OwnWalk
import Derived.Laws.BytesArg
import Derived.Laws.MakeOwn
import Derived.Laws.OwnMore
import Derived.Deep.OwnRows
import Derived.Tactics
import Derived.Lib.ConvBytes
import Derived.Laws.Slices
import Derived.WalkKit
import Derived.KernelRfl
import Derived.RowKit3
import Derived.Deep.LoopGhost
import Derived.Deep.QuietTactic
import Derived.BigQuiet
import Derived.WideLaws
import Derived.Deep.DeepCutAuto
import Derived.Deep.CutBlock
import Derived.Deep.RegionHeld3
import Derived.Laws.Rows
import Derived.Lib.AppendStr
import Derived.ArgAppend
import Derived.Laws.IdiomCopy
import Derived.OrdersHeld
import Derived.Laws.BitsLemmas
import Derived.RowKit
import Derived.Test.YtgjifcflkcpnlaaWWords
import Derived.Test.YtgjifcflkcpnlaaWLast
import Derived.Test.YtgjifcflkcpnlaaWTab
import Derived.Test.YtgjifcflkcpnlaaWFour
import Derived.Test.YtgjifcflkcpnlaaWQPut
import Derived.Test.YtgjifcflkcpnlaaWApart
import Derived.Test.YtgjifcflkcpnlaaWArr
import Derived.Test.YtgjifcflkcpnlaaWZeros
import Derived.Test.YtgjifcflkcpnlaaWFoot
import Derived.Test.YtgjifcflkcpnlaaWKept
import Derived.Test.YtgjifcflkcpnlaaWShare
import Derived.Test.YtgjifcflkcpnlaaWN
import Derived.Test.YtgjifcflkcpnlaaWFootNe
import Derived.Test.YtgjifcflkcpnlaaWAt
import Derived.Test.YtgjifcflkcpnlaaWEqStruct
import Derived.Test.YtgjifcflkcpnlaaWRepsOne
import Derived.Test.YtgjifcflkcpnlaaWInv
import Derived.Test.YtgjifcflkcpnlaaWInvWords
import Derived.Test.YtgjifcflkcpnlaaWGuard
import Derived.Test.YtgjifcflkcpnlaaWNEv
import Derived.Test.YtgjifcflkcpnlaaWMore
import Derived.Laws.Cover4
namespace Go.Proofs.Ytgjifcflkcpnlaa.P
open Go.RowKit Go.Proofs.YtgjifcflkcpnlaaW.PrintWords Go.Proofs.YtgjifcflkcpnlaaW.PrintLast Go.Proofs.YtgjifcflkcpnlaaW.PrintMore
set_option linter.unusedVariables false

/-- string(r), r a row of runes of the call's own -/
theorem own_stringR {P : Program} {w : World} {base n : Nat} {e' src dst e : TypeId} {v : Value} {xs : List Int} (hs : P.underlying src = some (.slice e)) (he : P.underlying e = some (.int .i32)) (hd : P.underlying dst = some .string)
    (h : w.ownsRow base e' 1 v n (nums .i32 xs)) : (convert src dst v).run P w = .ok (.string (runesBytes xs)) w := by
  have hl : xs.length = n := by have := h.1; simp [nums] at this; exact this
  rcases h.2 with ⟨rfl, rfl⟩ | ⟨g, cap, cur, rfl, _⟩
  · obtain rfl : xs = [] := List.eq_nil_of_length_eq_zero hl
    exact run_convert_runes_nil w src dst e 0 0 hs he hd
  · have := run_convert_runes w src dst e ⟨g, 0, none⟩ n cap xs (by omega) hs he hd (fun i hi => h.cells (g := g) rfl i (.int .i32 (xs.getD i 0)) (by simp [nums, List.getElem?_eq_getElem (show i < xs.length by omega), List.getD_eq_getElem?_getD]))
    rwa [List.take_of_length_le (by omega)] at this
end Go.Proofs.Ytgjifcflkcpnlaa.P
