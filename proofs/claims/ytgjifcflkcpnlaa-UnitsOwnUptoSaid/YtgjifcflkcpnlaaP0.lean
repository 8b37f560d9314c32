/- Contracts of Go functions of this seat, laid by program out of the translation's own print: each Go function as a plain Lean function, and a proof that the machine's call comes to its answers. -/
import Derived.Test.YtgjifcflkcpnlaaProg
import Derived.Below
import Derived.Deep.Draws
import Derived.Deep.AppendLies
import Derived.Maps.AppendAt
import Derived.OwnWalk
import Derived.Laws.BytesArg
import Derived.Laws.MakeOwn
import Derived.Laws.OwnMore
import Derived.Deep.OwnRows
import Derived.Tactics
import Derived.Lib.ConvBytes
import Derived.Laws.Slices
import Derived.WalkKit
import Derived.KernelRfl
import Derived.RowKit3
import Derived.Deep.LoopGhost
import Derived.Deep.QuietTactic
import Derived.BigQuiet
import Derived.WideLaws
import Derived.Deep.DeepCutAuto
import Derived.Deep.CutBlock
import Derived.Deep.RegionHeld3
import Derived.Laws.Rows
import Derived.Lib.AppendStr
import Derived.ArgAppend
import Derived.Laws.IdiomCopy
import Derived.OrdersHeld
import Derived.Laws.BitsLemmas
import Derived.RowKit
import Derived.Test.YtgjifcflkcpnlaaHandV
import Derived.Test.YtgjifcflkcpnlaaWWords
import Derived.Test.YtgjifcflkcpnlaaWLast
import Derived.Test.YtgjifcflkcpnlaaWTab
import Derived.Test.YtgjifcflkcpnlaaWFour
import Derived.Test.YtgjifcflkcpnlaaWQPut
import Derived.Test.YtgjifcflkcpnlaaWApart
import Derived.Test.YtgjifcflkcpnlaaWArr
import Derived.Test.YtgjifcflkcpnlaaWZeros
import Derived.Test.YtgjifcflkcpnlaaWFoot
import Derived.Test.YtgjifcflkcpnlaaWKept
import Derived.Test.YtgjifcflkcpnlaaWShare
import Derived.Test.YtgjifcflkcpnlaaWN
import Derived.Test.YtgjifcflkcpnlaaWFootNe
import Derived.Test.YtgjifcflkcpnlaaWAt
import Derived.Test.YtgjifcflkcpnlaaWEqStruct
import Derived.Test.YtgjifcflkcpnlaaWRepsOne
import Derived.Test.YtgjifcflkcpnlaaWInv
import Derived.Test.YtgjifcflkcpnlaaWInvWords
import Derived.Test.YtgjifcflkcpnlaaWGuard
import Derived.Test.YtgjifcflkcpnlaaWNEv
import Derived.Test.YtgjifcflkcpnlaaWMore
namespace Go.Proofs.Ytgjifcflkcpnlaa.P
open Go.RowKit Go.Proofs.YtgjifcflkcpnlaaW.PrintWords Go.Proofs.YtgjifcflkcpnlaaW.PrintLast Go.Proofs.YtgjifcflkcpnlaaW.PrintMore
attribute [local go_sem] max2_int min2_int max_two min_two max_three min_three max_four min_four   -- for this text's walks alone
set_option linter.unusedVariables false
set_option linter.unusedSimpArgs false



def errW : Option Int → Value
  | none => .nilIface
  | some c => .iface 0 (.int .i64 c)
theorem errW_none : errW none = .nilIface := rfl
theorem errW_some (c : Int) : errW (some c) = .iface 0 (.int .i64 c) := rfl

theorem info5 : (Try.prog.info? 5).map (fun i => (i.zero, i.size, i.bytes)) = some (some (.int .u8 0), 1, 1) := by kernel_rfl
theorem info9 : (Try.prog.info? 9).map (fun i => (i.zero, i.size, i.bytes)) = some (some (.string ⟨#[]⟩), 1, 16) := by kernel_rfl
theorem info21 : (Try.prog.info? 21).map (fun i => (i.zero, i.size, i.bytes)) = some (some (.int .i32 0), 1, 4) := by kernel_rfl
theorem info43 : (Try.prog.info? 43).map (fun i => (i.zero, i.size, i.bytes)) = some (some (.int .u16 0), 1, 2) := by kernel_rfl
-- the values' own types

end Go.Proofs.Ytgjifcflkcpnlaa.P
