/- Keys of this seat's maps. -/
import Derived.Test.YteijifoobaoclaaGreatAwX
import Derived.Test.YteijifoobaoclaaGreatAwW
namespace Go.Proofs.YteijifoobaoclaaGreat.A
set_option linter.unusedVariables false
set_option maxRecDepth 100000
theorem and_dec {p q : Prop} : (dec p && dec q) = dec (p ∧ q) := by
  by_cases hp : p <;> by_cases hq : q <;> simp [dec_eq, hp, hq]
theorem key3 : KeyT Tryz.prog 3 (fun n : Int => .int .i64 n) (fun n => [.int .i64 n]) := KeyT.int Tryz.underlying3 .i64
theorem key70 : KeyT Tryz.prog 70 (fun n : Int => .int .u8 n) (fun n => [.int .u8 n]) := KeyT.int Tryz.underlying70 .u8
theorem key151 : KeyT Tryz.prog 151 (fun p : ByteArray × ByteArray => .agg #[.string p.1, .string p.2]) (fun p => [.str p.1, .str p.2]) := by
  refine KeyT.two Tryz.underlying151 ?_ ?_
  · intro e a b w
    rfl
  · intro x y w
    have := eqd151 9998 w x.1 y.1 x.2 y.2
    rw [and_dec, show (x.1 = y.1 ∧ x.2 = y.2) = (x = y) by rw [Prod.ext_iff]] at this
    exact equal_at 9998 2 rfl this
theorem zero3 (w : World) : (zeroValue 3).run Tryz.prog w = .ok (.int .i64 0) w := rfl
end Go.Proofs.YteijifoobaoclaaGreat.A
