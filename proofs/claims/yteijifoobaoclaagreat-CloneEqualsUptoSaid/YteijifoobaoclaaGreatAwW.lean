/- '==' of this seat's structs (by program). -/
import Derived.Test.YteijifoobaoclaaGreatAwV
import Derived.Test.YteijifoobaoclaaGreatAwT
namespace Go.Proofs.YteijifoobaoclaaGreat.A
set_option linter.unusedVariables false
set_option maxRecDepth 100000
theorem eqd45 (d : Nat) (w : World) (x0 y0 : ByteArray) (x1 y1 : ByteArray) (x2 y2 : ByteArray) : (Op.equalIn (d + 2) 45 (.agg [.string x0, .string x1, .string x2].toArray) (.agg [.string y0, .string y1, .string y2].toArray)).run Tryz.prog w = .ok ((dec (x0 = y0) && (dec (x1 = y1) && dec (x2 = y2)))) w := by
  refine eqA_of (d := d + 1) Tryz.underlying45 (by kernel_rfl) ?_
  refine eqf_cons (by decide) (part_1 tk9 rfl _ _ rfl) (part_1 tk9 rfl _ _ rfl) (eqi_str (d := d + 0) Tryz.underlying9) ?_
  refine eqf_cons (by decide) (part_1 tk9 rfl _ _ rfl) (part_1 tk9 rfl _ _ rfl) (eqi_str (d := d + 0) Tryz.underlying9) ?_
  refine eqf_last (by decide) (part_1 tk9 rfl _ _ rfl) (part_1 tk9 rfl _ _ rfl) (eqi_str (d := d + 0) Tryz.underlying9)
noncomputable def eqv45 : List AV → List AV → Option Bool
  | [.imm (.str x0), .imm (.str x1), .imm (.str x2)], [.imm (.str y0), .imm (.str y1), .imm (.str y2)] => some ((dec (x0 = y0) && (dec (x1 = y1) && dec (x2 = y2))))
  | _, _ => none
theorem eqt45 : EqT Tryz.prog 45 eqv45 := by
  refine ⟨by kernel_rfl, fun M l m b xs ys w hf hl hm => ?_⟩
  unfold eqv45 at hf
  split at hf
  · obtain rfl := Option.some.inj hf
    obtain ⟨xs0, rfl, hl0⟩ := c_str hl
    obtain ⟨xs1, rfl, hl1⟩ := c_str hl0
    obtain ⟨xs2, rfl, hl2⟩ := c_str hl1
    obtain rfl := c_nil hl2
    obtain ⟨ys0, rfl, hm0⟩ := c_str hm
    obtain ⟨ys1, rfl, hm1⟩ := c_str hm0
    obtain ⟨ys2, rfl, hm2⟩ := c_str hm1
    obtain rfl := c_nil hm2
    exact equal_at 9998 2 rfl (eqd45 9998 w _ _ _ _ _ _)
  · cases hf
theorem eqd68 (d : Nat) (w : World) (x0 y0 : ByteArray) (x1 y1 : ByteArray) (x2 y2 : ByteArray) (x3 y3 : ByteArray) : (Op.equalIn (d + 3) 68 (.agg [.string x0, .string x1, .string x2, .string x3].toArray) (.agg [.string y0, .string y1, .string y2, .string y3].toArray)).run Tryz.prog w = .ok (((dec (x0 = y0) && (dec (x1 = y1) && dec (x2 = y2))) && dec (x3 = y3))) w := by
  refine eqA_of (d := d + 2) Tryz.underlying68 (by kernel_rfl) ?_
  refine eqf_cons (by decide) (part_a tk45 rfl _ _ rfl) (part_a tk45 rfl _ _ rfl) (by have := eqd45 (d + 0) w x0 y0 x1 y1 x2 y2; exact this) ?_
  refine eqf_last (by decide) (part_1 tk9 rfl _ _ rfl) (part_1 tk9 rfl _ _ rfl) (eqi_str (d := d + 1) Tryz.underlying9)
noncomputable def eqv68 : List AV → List AV → Option Bool
  | [.imm (.str x0), .imm (.str x1), .imm (.str x2), .imm (.str x3)], [.imm (.str y0), .imm (.str y1), .imm (.str y2), .imm (.str y3)] => some (((dec (x0 = y0) && (dec (x1 = y1) && dec (x2 = y2))) && dec (x3 = y3)))
  | _, _ => none
theorem eqt68 : EqT Tryz.prog 68 eqv68 := by
  refine ⟨by kernel_rfl, fun M l m b xs ys w hf hl hm => ?_⟩
  unfold eqv68 at hf
  split at hf
  · obtain rfl := Option.some.inj hf
    obtain ⟨xs0, rfl, hl0⟩ := c_str hl
    obtain ⟨xs1, rfl, hl1⟩ := c_str hl0
    obtain ⟨xs2, rfl, hl2⟩ := c_str hl1
    obtain ⟨xs3, rfl, hl3⟩ := c_str hl2
    obtain rfl := c_nil hl3
    obtain ⟨ys0, rfl, hm0⟩ := c_str hm
    obtain ⟨ys1, rfl, hm1⟩ := c_str hm0
    obtain ⟨ys2, rfl, hm2⟩ := c_str hm1
    obtain ⟨ys3, rfl, hm3⟩ := c_str hm2
    obtain rfl := c_nil hm3
    exact equal_at 9997 3 rfl (eqd68 9997 w _ _ _ _ _ _ _ _)
  · cases hf
theorem eqd151 (d : Nat) (w : World) (x0 y0 : ByteArray) (x1 y1 : ByteArray) : (Op.equalIn (d + 2) 151 (.agg [.string x0, .string x1].toArray) (.agg [.string y0, .string y1].toArray)).run Tryz.prog w = .ok ((dec (x0 = y0) && dec (x1 = y1))) w := by
  refine eqA_of (d := d + 1) Tryz.underlying151 (by kernel_rfl) ?_
  refine eqf_cons (by decide) (part_1 tk9 rfl _ _ rfl) (part_1 tk9 rfl _ _ rfl) (eqi_str (d := d + 0) Tryz.underlying9) ?_
  refine eqf_last (by decide) (part_1 tk9 rfl _ _ rfl) (part_1 tk9 rfl _ _ rfl) (eqi_str (d := d + 0) Tryz.underlying9)
noncomputable def eqv151 : List AV → List AV → Option Bool
  | [.imm (.str x0), .imm (.str x1)], [.imm (.str y0), .imm (.str y1)] => some ((dec (x0 = y0) && dec (x1 = y1)))
  | _, _ => none
theorem eqt151 : EqT Tryz.prog 151 eqv151 := by
  refine ⟨by kernel_rfl, fun M l m b xs ys w hf hl hm => ?_⟩
  unfold eqv151 at hf
  split at hf
  · obtain rfl := Option.some.inj hf
    obtain ⟨xs0, rfl, hl0⟩ := c_str hl
    obtain ⟨xs1, rfl, hl1⟩ := c_str hl0
    obtain rfl := c_nil hl1
    obtain ⟨ys0, rfl, hm0⟩ := c_str hm
    obtain ⟨ys1, rfl, hm1⟩ := c_str hm0
    obtain rfl := c_nil hm1
    exact equal_at 9998 2 rfl (eqd151 9998 w _ _ _ _)
  · cases hf
theorem eqd146 (d : Nat) (w : World) (x0 y0 : Int) (x1 y1 : ByteArray) (x2 y2 : ByteArray) (x3 y3 : ByteArray) (x4 y4 : ByteArray) (x5 y5 : ByteArray) (x6 y6 : Int) (x7 y7 : Int) (x8 y8 : Int) (x9 y9 : Int) (x10 y10 : Int) (x11 y11 : Bool) (x12 y12 : Bool) : (Op.equalIn (d + 3) 146 (.agg [.int .u8 x0, .string x1, .string x2, .string x3, .string x4, .string x5, .int .i64 x6, .int .i64 x7, .int .i64 x8, .int .i64 x9, .int .u8 x10, .bool x11, .bool x12].toArray) (.agg [.int .u8 y0, .string y1, .string y2, .string y3, .string y4, .string y5, .int .i64 y6, .int .i64 y7, .int .i64 y8, .int .i64 y9, .int .u8 y10, .bool y11, .bool y12].toArray)).run Tryz.prog w = .ok ((dec (x0 = y0) && ((dec (x1 = y1) && (dec (x2 = y2) && dec (x3 = y3))) && (dec (x4 = y4) && (dec (x5 = y5) && (dec (x6 = y6) && (dec (x7 = y7) && (dec (x8 = y8) && (dec (x9 = y9) && (dec (x10 = y10) && ((x11 == y11) && (x12 == y12)))))))))))) w := by
  refine eqA_of (d := d + 2) Tryz.underlying146 (by kernel_rfl) ?_
  refine eqf_cons (by decide) (part_1 tk43 rfl _ _ rfl) (part_1 tk43 rfl _ _ rfl) (eqi_int (d := d + 1) Tryz.underlying43) ?_
  refine eqf_cons (by decide) (part_a tk45 rfl _ _ rfl) (part_a tk45 rfl _ _ rfl) (by have := eqd45 (d + 0) w x1 y1 x2 y2 x3 y3; exact this) ?_
  refine eqf_cons (by decide) (part_1 tk9 rfl _ _ rfl) (part_1 tk9 rfl _ _ rfl) (eqi_str (d := d + 1) Tryz.underlying9) ?_
  refine eqf_cons (by decide) (part_1 tk9 rfl _ _ rfl) (part_1 tk9 rfl _ _ rfl) (eqi_str (d := d + 1) Tryz.underlying9) ?_
  refine eqf_cons (by decide) (part_1 tk3 rfl _ _ rfl) (part_1 tk3 rfl _ _ rfl) (eqi_int (d := d + 1) Tryz.underlying3) ?_
  refine eqf_cons (by decide) (part_1 tk3 rfl _ _ rfl) (part_1 tk3 rfl _ _ rfl) (eqi_int (d := d + 1) Tryz.underlying3) ?_
  refine eqf_cons (by decide) (part_1 tk3 rfl _ _ rfl) (part_1 tk3 rfl _ _ rfl) (eqi_int (d := d + 1) Tryz.underlying3) ?_
  refine eqf_cons (by decide) (part_1 tk3 rfl _ _ rfl) (part_1 tk3 rfl _ _ rfl) (eqi_int (d := d + 1) Tryz.underlying3) ?_
  refine eqf_cons (by decide) (part_1 tk50 rfl _ _ rfl) (part_1 tk50 rfl _ _ rfl) (eqi_int (d := d + 1) Tryz.underlying50) ?_
  refine eqf_cons (by decide) (part_1 tk4 rfl _ _ rfl) (part_1 tk4 rfl _ _ rfl) (eqi_bool (d := d + 1) Tryz.underlying4) ?_
  refine eqf_last (by decide) (part_1 tk4 rfl _ _ rfl) (part_1 tk4 rfl _ _ rfl) (eqi_bool (d := d + 1) Tryz.underlying4)
noncomputable def eqv146 : List AV → List AV → Option Bool
  | [.imm (.int .u8 x0), .imm (.str x1), .imm (.str x2), .imm (.str x3), .imm (.str x4), .imm (.str x5), .imm (.int .i64 x6), .imm (.int .i64 x7), .imm (.int .i64 x8), .imm (.int .i64 x9), .imm (.int .u8 x10), .imm (.bool x11), .imm (.bool x12)], [.imm (.int .u8 y0), .imm (.str y1), .imm (.str y2), .imm (.str y3), .imm (.str y4), .imm (.str y5), .imm (.int .i64 y6), .imm (.int .i64 y7), .imm (.int .i64 y8), .imm (.int .i64 y9), .imm (.int .u8 y10), .imm (.bool y11), .imm (.bool y12)] => some ((dec (x0 = y0) && ((dec (x1 = y1) && (dec (x2 = y2) && dec (x3 = y3))) && (dec (x4 = y4) && (dec (x5 = y5) && (dec (x6 = y6) && (dec (x7 = y7) && (dec (x8 = y8) && (dec (x9 = y9) && (dec (x10 = y10) && ((x11 == y11) && (x12 == y12))))))))))))
  | _, _ => none
theorem eqt146 : EqT Tryz.prog 146 eqv146 := by
  refine ⟨by kernel_rfl, fun M l m b xs ys w hf hl hm => ?_⟩
  unfold eqv146 at hf
  split at hf
  · obtain rfl := Option.some.inj hf
    obtain ⟨xs0, rfl, hl0⟩ := c_int hl
    obtain ⟨xs1, rfl, hl1⟩ := c_str hl0
    obtain ⟨xs2, rfl, hl2⟩ := c_str hl1
    obtain ⟨xs3, rfl, hl3⟩ := c_str hl2
    obtain ⟨xs4, rfl, hl4⟩ := c_str hl3
    obtain ⟨xs5, rfl, hl5⟩ := c_str hl4
    obtain ⟨xs6, rfl, hl6⟩ := c_int hl5
    obtain ⟨xs7, rfl, hl7⟩ := c_int hl6
    obtain ⟨xs8, rfl, hl8⟩ := c_int hl7
    obtain ⟨xs9, rfl, hl9⟩ := c_int hl8
    obtain ⟨xs10, rfl, hl10⟩ := c_int hl9
    obtain ⟨xs11, rfl, hl11⟩ := c_bool hl10
    obtain ⟨xs12, rfl, hl12⟩ := c_bool hl11
    obtain rfl := c_nil hl12
    obtain ⟨ys0, rfl, hm0⟩ := c_int hm
    obtain ⟨ys1, rfl, hm1⟩ := c_str hm0
    obtain ⟨ys2, rfl, hm2⟩ := c_str hm1
    obtain ⟨ys3, rfl, hm3⟩ := c_str hm2
    obtain ⟨ys4, rfl, hm4⟩ := c_str hm3
    obtain ⟨ys5, rfl, hm5⟩ := c_str hm4
    obtain ⟨ys6, rfl, hm6⟩ := c_int hm5
    obtain ⟨ys7, rfl, hm7⟩ := c_int hm6
    obtain ⟨ys8, rfl, hm8⟩ := c_int hm7
    obtain ⟨ys9, rfl, hm9⟩ := c_int hm8
    obtain ⟨ys10, rfl, hm10⟩ := c_int hm9
    obtain ⟨ys11, rfl, hm11⟩ := c_bool hm10
    obtain ⟨ys12, rfl, hm12⟩ := c_bool hm11
    obtain rfl := c_nil hm12
    exact equal_at 9997 3 rfl (eqd146 9997 w _ _ _ _ _ _ _ _ _ _ _ _ _ _ _ _ _ _ _ _ _ _ _ _ _ _)
  · cases hf
end Go.Proofs.YteijifoobaoclaaGreat.A
