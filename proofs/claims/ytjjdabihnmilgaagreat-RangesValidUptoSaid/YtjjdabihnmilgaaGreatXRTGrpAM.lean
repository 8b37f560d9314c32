/- '==' of this seat's structs (by program). -/
import Derived.Test.YtjjdabihnmilgaaGreatXRTGrpAG
import Derived.Test.YtjjdabihnmilgaaGreatXRTGrpAL
import Derived.Test.YtjjdabihnmilgaaGreatXRTGrpAH
import Derived.Test.YtjjdabihnmilgaaGreatXRTGrpAJ
namespace Go.Proofs.YtjjdabihnmilgaaGreat.A
set_option linter.unusedVariables false
set_option maxRecDepth 100000
theorem eqd75 (d : Nat) (w : World) (x0 y0 : ByteArray) (x1 y1 : ByteArray) (x2 y2 : ByteArray) : (Op.equalIn (d + 2) 75 (.agg [.string x0, .string x1, .string x2].toArray) (.agg [.string y0, .string y1, .string y2].toArray)).run Tryz.prog w = .ok ((dec (x0 = y0) && (dec (x1 = y1) && dec (x2 = y2)))) w := by
  refine eqA_of (d := d + 1) Tryz.underlying75 (by kernel_rfl) ?_
  refine eqf_cons (by decide) (part_1 tk9 rfl _ _ rfl) (part_1 tk9 rfl _ _ rfl) (eqi_str (d := d + 0) Tryz.underlying9) ?_
  refine eqf_cons (by decide) (part_1 tk9 rfl _ _ rfl) (part_1 tk9 rfl _ _ rfl) (eqi_str (d := d + 0) Tryz.underlying9) ?_
  refine eqf_last (by decide) (part_1 tk9 rfl _ _ rfl) (part_1 tk9 rfl _ _ rfl) (eqi_str (d := d + 0) Tryz.underlying9)
noncomputable def eqv75 : List AV → List AV → Option Bool
  | [.imm (.str x0), .imm (.str x1), .imm (.str x2)], [.imm (.str y0), .imm (.str y1), .imm (.str y2)] => some ((dec (x0 = y0) && (dec (x1 = y1) && dec (x2 = y2))))
  | _, _ => none
theorem eqt75 : EqT Tryz.prog 75 eqv75 := by
  refine ⟨by kernel_rfl, fun M l m b xs ys w hf hl hm => ?_⟩
  unfold eqv75 at hf
  split at hf
  · obtain rfl := Option.some.inj hf
    obtain ⟨xs0, rfl, hl0⟩ := c_str hl
    obtain ⟨xs1, rfl, hl1⟩ := c_str hl0
    obtain ⟨xs2, rfl, hl2⟩ := c_str hl1
    obtain rfl := c_nil hl2
    obtain ⟨ys0, rfl, hm0⟩ := c_str hm
    obtain ⟨ys1, rfl, hm1⟩ := c_str hm0
    obtain ⟨ys2, rfl, hm2⟩ := c_str hm1
    obtain rfl := c_nil hm2
    exact equal_at 9998 2 rfl (eqd75 9998 w _ _ _ _ _ _)
  · cases hf
theorem eqd176 (d : Nat) (w : World) (x0 y0 : ByteArray) (x1 y1 : ByteArray) (x2 y2 : ByteArray) (x3 y3 : ByteArray) : (Op.equalIn (d + 3) 176 (.agg [.string x0, .string x1, .string x2, .string x3].toArray) (.agg [.string y0, .string y1, .string y2, .string y3].toArray)).run Tryz.prog w = .ok (((dec (x0 = y0) && (dec (x1 = y1) && dec (x2 = y2))) && dec (x3 = y3))) w := by
  refine eqA_of (d := d + 2) Tryz.underlying176 (by kernel_rfl) ?_
  refine eqf_cons (by decide) (part_a tk75 rfl _ _ rfl) (part_a tk75 rfl _ _ rfl) (by have := eqd75 (d + 0) w x0 y0 x1 y1 x2 y2; exact this) ?_
  refine eqf_last (by decide) (part_1 tk9 rfl _ _ rfl) (part_1 tk9 rfl _ _ rfl) (eqi_str (d := d + 1) Tryz.underlying9)
noncomputable def eqv176 : List AV → List AV → Option Bool
  | [.imm (.str x0), .imm (.str x1), .imm (.str x2), .imm (.str x3)], [.imm (.str y0), .imm (.str y1), .imm (.str y2), .imm (.str y3)] => some (((dec (x0 = y0) && (dec (x1 = y1) && dec (x2 = y2))) && dec (x3 = y3)))
  | _, _ => none
theorem eqt176 : EqT Tryz.prog 176 eqv176 := by
  refine ⟨by kernel_rfl, fun M l m b xs ys w hf hl hm => ?_⟩
  unfold eqv176 at hf
  split at hf
  · obtain rfl := Option.some.inj hf
    obtain ⟨xs0, rfl, hl0⟩ := c_str hl
    obtain ⟨xs1, rfl, hl1⟩ := c_str hl0
    obtain ⟨xs2, rfl, hl2⟩ := c_str hl1
    obtain ⟨xs3, rfl, hl3⟩ := c_str hl2
    obtain rfl := c_nil hl3
    obtain ⟨ys0, rfl, hm0⟩ := c_str hm
    obtain ⟨ys1, rfl, hm1⟩ := c_str hm0
    obtain ⟨ys2, rfl, hm2⟩ := c_str hm1
    obtain ⟨ys3, rfl, hm3⟩ := c_str hm2
    obtain rfl := c_nil hm3
    exact equal_at 9997 3 rfl (eqd176 9997 w _ _ _ _ _ _ _ _)
  · cases hf
theorem eqd219 (d : Nat) (w : World) (x0 y0 : Int) (x1 y1 : ByteArray) (x2 y2 : ByteArray) (x3 y3 : ByteArray) (x4 y4 : ByteArray) (x5 y5 : ByteArray) (x6 y6 : Int) (x7 y7 : Int) (x8 y8 : Int) (x9 y9 : Int) (x10 y10 : Int) (x11 y11 : Bool) (x12 y12 : Bool) : (Op.equalIn (d + 3) 219 (.agg [.int .u8 x0, .string x1, .string x2, .string x3, .string x4, .string x5, .int .i64 x6, .int .i64 x7, .int .i64 x8, .int .i64 x9, .int .u8 x10, .bool x11, .bool x12].toArray) (.agg [.int .u8 y0, .string y1, .string y2, .string y3, .string y4, .string y5, .int .i64 y6, .int .i64 y7, .int .i64 y8, .int .i64 y9, .int .u8 y10, .bool y11, .bool y12].toArray)).run Tryz.prog w = .ok ((dec (x0 = y0) && ((dec (x1 = y1) && (dec (x2 = y2) && dec (x3 = y3))) && (dec (x4 = y4) && (dec (x5 = y5) && (dec (x6 = y6) && (dec (x7 = y7) && (dec (x8 = y8) && (dec (x9 = y9) && (dec (x10 = y10) && ((x11 == y11) && (x12 == y12)))))))))))) w := by
  refine eqA_of (d := d + 2) Tryz.underlying219 (by kernel_rfl) ?_
  refine eqf_cons (by decide) (part_1 tk76 rfl _ _ rfl) (part_1 tk76 rfl _ _ rfl) (eqi_int (d := d + 1) Tryz.underlying76) ?_
  refine eqf_cons (by decide) (part_a tk75 rfl _ _ rfl) (part_a tk75 rfl _ _ rfl) (by have := eqd75 (d + 0) w x1 y1 x2 y2 x3 y3; exact this) ?_
  refine eqf_cons (by decide) (part_1 tk9 rfl _ _ rfl) (part_1 tk9 rfl _ _ rfl) (eqi_str (d := d + 1) Tryz.underlying9) ?_
  refine eqf_cons (by decide) (part_1 tk9 rfl _ _ rfl) (part_1 tk9 rfl _ _ rfl) (eqi_str (d := d + 1) Tryz.underlying9) ?_
  refine eqf_cons (by decide) (part_1 tk3 rfl _ _ rfl) (part_1 tk3 rfl _ _ rfl) (eqi_int (d := d + 1) Tryz.underlying3) ?_
  refine eqf_cons (by decide) (part_1 tk3 rfl _ _ rfl) (part_1 tk3 rfl _ _ rfl) (eqi_int (d := d + 1) Tryz.underlying3) ?_
  refine eqf_cons (by decide) (part_1 tk3 rfl _ _ rfl) (part_1 tk3 rfl _ _ rfl) (eqi_int (d := d + 1) Tryz.underlying3) ?_
  refine eqf_cons (by decide) (part_1 tk3 rfl _ _ rfl) (part_1 tk3 rfl _ _ rfl) (eqi_int (d := d + 1) Tryz.underlying3) ?_
  refine eqf_cons (by decide) (part_1 tk79 rfl _ _ rfl) (part_1 tk79 rfl _ _ rfl) (eqi_int (d := d + 1) Tryz.underlying79) ?_
  refine eqf_cons (by decide) (part_1 tk4 rfl _ _ rfl) (part_1 tk4 rfl _ _ rfl) (eqi_bool (d := d + 1) Tryz.underlying4) ?_
  refine eqf_last (by decide) (part_1 tk4 rfl _ _ rfl) (part_1 tk4 rfl _ _ rfl) (eqi_bool (d := d + 1) Tryz.underlying4)
noncomputable def eqv219 : List AV → List AV → Option Bool
  | [.imm (.int .u8 x0), .imm (.str x1), .imm (.str x2), .imm (.str x3), .imm (.str x4), .imm (.str x5), .imm (.int .i64 x6), .imm (.int .i64 x7), .imm (.int .i64 x8), .imm (.int .i64 x9), .imm (.int .u8 x10), .imm (.bool x11), .imm (.bool x12)], [.imm (.int .u8 y0), .imm (.str y1), .imm (.str y2), .imm (.str y3), .imm (.str y4), .imm (.str y5), .imm (.int .i64 y6), .imm (.int .i64 y7), .imm (.int .i64 y8), .imm (.int .i64 y9), .imm (.int .u8 y10), .imm (.bool y11), .imm (.bool y12)] => some ((dec (x0 = y0) && ((dec (x1 = y1) && (dec (x2 = y2) && dec (x3 = y3))) && (dec (x4 = y4) && (dec (x5 = y5) && (dec (x6 = y6) && (dec (x7 = y7) && (dec (x8 = y8) && (dec (x9 = y9) && (dec (x10 = y10) && ((x11 == y11) && (x12 == y12))))))))))))
  | _, _ => none
theorem eqt219 : EqT Tryz.prog 219 eqv219 := by
  refine ⟨by kernel_rfl, fun M l m b xs ys w hf hl hm => ?_⟩
  unfold eqv219 at hf
  split at hf
  · obtain rfl := Option.some.inj hf
    obtain ⟨xs0, rfl, hl0⟩ := c_int hl
    obtain ⟨xs1, rfl, hl1⟩ := c_str hl0
    obtain ⟨xs2, rfl, hl2⟩ := c_str hl1
    obtain ⟨xs3, rfl, hl3⟩ := c_str hl2
    obtain ⟨xs4, rfl, hl4⟩ := c_str hl3
    obtain ⟨xs5, rfl, hl5⟩ := c_str hl4
    obtain ⟨xs6, rfl, hl6⟩ := c_int hl5
    obtain ⟨xs7, rfl, hl7⟩ := c_int hl6
    obtain ⟨xs8, rfl, hl8⟩ := c_int hl7
    obtain ⟨xs9, rfl, hl9⟩ := c_int hl8
    obtain ⟨xs10, rfl, hl10⟩ := c_int hl9
    obtain ⟨xs11, rfl, hl11⟩ := c_bool hl10
    obtain ⟨xs12, rfl, hl12⟩ := c_bool hl11
    obtain rfl := c_nil hl12
    obtain ⟨ys0, rfl, hm0⟩ := c_int hm
    obtain ⟨ys1, rfl, hm1⟩ := c_str hm0
    obtain ⟨ys2, rfl, hm2⟩ := c_str hm1
    obtain ⟨ys3, rfl, hm3⟩ := c_str hm2
    obtain ⟨ys4, rfl, hm4⟩ := c_str hm3
    obtain ⟨ys5, rfl, hm5⟩ := c_str hm4
    obtain ⟨ys6, rfl, hm6⟩ := c_int hm5
    obtain ⟨ys7, rfl, hm7⟩ := c_int hm6
    obtain ⟨ys8, rfl, hm8⟩ := c_int hm7
    obtain ⟨ys9, rfl, hm9⟩ := c_int hm8
    obtain ⟨ys10, rfl, hm10⟩ := c_int hm9
    obtain ⟨ys11, rfl, hm11⟩ := c_bool hm10
    obtain ⟨ys12, rfl, hm12⟩ := c_bool hm11
    obtain rfl := c_nil hm12
    exact equal_at 9997 3 rfl (eqd219 9997 w _ _ _ _ _ _ _ _ _ _ _ _ _ _ _ _ _ _ _ _ _ _ _ _ _ _)
  · cases hf
theorem eqd225 (d : Nat) (w : World) (x0 y0 : ByteArray) (x1 y1 : ByteArray) : (Op.equalIn (d + 2) 225 (.agg [.string x0, .string x1].toArray) (.agg [.string y0, .string y1].toArray)).run Tryz.prog w = .ok ((dec (x0 = y0) && dec (x1 = y1))) w := by
  refine eqA_of (d := d + 1) Tryz.underlying225 (by kernel_rfl) ?_
  refine eqf_cons (by decide) (part_1 tk9 rfl _ _ rfl) (part_1 tk9 rfl _ _ rfl) (eqi_str (d := d + 0) Tryz.underlying9) ?_
  refine eqf_last (by decide) (part_1 tk9 rfl _ _ rfl) (part_1 tk9 rfl _ _ rfl) (eqi_str (d := d + 0) Tryz.underlying9)
theorem eqd39 (d : Nat) (w : World) (x0 y0 : Int) (x1 y1 : Int) : (Op.equalIn (d + 2) 39 (.agg [.int .i64 x0, .int .i64 x1].toArray) (.agg [.int .i64 y0, .int .i64 y1].toArray)).run Tryz.prog w = .ok ((dec (x0 = y0) && dec (x1 = y1))) w := by
  refine eqA_of (d := d + 1) Tryz.underlying39 (by kernel_rfl) ?_
  refine eqf_cons (by decide) (part_1 tk3 rfl _ _ rfl) (part_1 tk3 rfl _ _ rfl) (eqi_int (d := d + 0) Tryz.underlying3) ?_
  refine eqf_last (by decide) (part_1 tk3 rfl _ _ rfl) (part_1 tk3 rfl _ _ rfl) (eqi_int (d := d + 0) Tryz.underlying3)
noncomputable def eqv39 : List AV → List AV → Option Bool
  | [.imm (.int .i64 x0), .imm (.int .i64 x1)], [.imm (.int .i64 y0), .imm (.int .i64 y1)] => some ((dec (x0 = y0) && dec (x1 = y1)))
  | _, _ => none
theorem eqt39 : EqT Tryz.prog 39 eqv39 := by
  refine ⟨by kernel_rfl, fun M l m b xs ys w hf hl hm => ?_⟩
  unfold eqv39 at hf
  split at hf
  · obtain rfl := Option.some.inj hf
    obtain ⟨xs0, rfl, hl0⟩ := c_int hl
    obtain ⟨xs1, rfl, hl1⟩ := c_int hl0
    obtain rfl := c_nil hl1
    obtain ⟨ys0, rfl, hm0⟩ := c_int hm
    obtain ⟨ys1, rfl, hm1⟩ := c_int hm0
    obtain rfl := c_nil hm1
    exact equal_at 9998 2 rfl (eqd39 9998 w _ _ _ _)
  · cases hf
theorem eqd41 (d : Nat) (w : World) (x0 y0 : Int) (x1 y1 : Int) (x2 y2 : Int) (x3 y3 : Int) : (Op.equalIn (d + 3) 41 (.agg [.int .i64 x0, .int .i64 x1, .int .i64 x2, .int .i64 x3].toArray) (.agg [.int .i64 y0, .int .i64 y1, .int .i64 y2, .int .i64 y3].toArray)).run Tryz.prog w = .ok (((dec (x0 = y0) && dec (x1 = y1)) && (dec (x2 = y2) && dec (x3 = y3)))) w := by
  refine eqA_of (d := d + 2) Tryz.underlying41 (by kernel_rfl) ?_
  refine eqf_cons (by decide) (part_a tk39 rfl _ _ rfl) (part_a tk39 rfl _ _ rfl) (by have := eqd39 (d + 0) w x0 y0 x1 y1; exact this) ?_
  refine eqf_last (by decide) (part_a tk39 rfl _ _ rfl) (part_a tk39 rfl _ _ rfl) (by have := eqd39 (d + 0) w x2 y2 x3 y3; exact this)
noncomputable def eqv41 : List AV → List AV → Option Bool
  | [.imm (.int .i64 x0), .imm (.int .i64 x1), .imm (.int .i64 x2), .imm (.int .i64 x3)], [.imm (.int .i64 y0), .imm (.int .i64 y1), .imm (.int .i64 y2), .imm (.int .i64 y3)] => some (((dec (x0 = y0) && dec (x1 = y1)) && (dec (x2 = y2) && dec (x3 = y3))))
  | _, _ => none
theorem eqt41 : EqT Tryz.prog 41 eqv41 := by
  refine ⟨by kernel_rfl, fun M l m b xs ys w hf hl hm => ?_⟩
  unfold eqv41 at hf
  split at hf
  · obtain rfl := Option.some.inj hf
    obtain ⟨xs0, rfl, hl0⟩ := c_int hl
    obtain ⟨xs1, rfl, hl1⟩ := c_int hl0
    obtain ⟨xs2, rfl, hl2⟩ := c_int hl1
    obtain ⟨xs3, rfl, hl3⟩ := c_int hl2
    obtain rfl := c_nil hl3
    obtain ⟨ys0, rfl, hm0⟩ := c_int hm
    obtain ⟨ys1, rfl, hm1⟩ := c_int hm0
    obtain ⟨ys2, rfl, hm2⟩ := c_int hm1
    obtain ⟨ys3, rfl, hm3⟩ := c_int hm2
    obtain rfl := c_nil hm3
    exact equal_at 9997 3 rfl (eqd41 9997 w _ _ _ _ _ _ _ _)
  · cases hf
end Go.Proofs.YtjjdabihnmilgaaGreat.A
namespace Go.Proofs.YtjjdabihnmilgaaGreat.A
set_option linter.unusedVariables false
set_option maxRecDepth 100000
theorem and_dec {p q : Prop} : (dec p && dec q) = dec (p ∧ q) := by
  by_cases hp : p <;> by_cases hq : q <;> simp [dec_eq, hp, hq]
theorem key3 : KeyT Tryz.prog 3 (fun n : Int => .int .i64 n) (fun n => [.int .i64 n]) := KeyT.int Tryz.underlying3 .i64
theorem key71 : KeyT Tryz.prog 71 (fun n : Int => .int .u8 n) (fun n => [.int .u8 n]) := KeyT.int Tryz.underlying71 .u8
theorem key225 : KeyT Tryz.prog 225 (fun p : ByteArray × ByteArray => .agg #[.string p.1, .string p.2]) (fun p => [.str p.1, .str p.2]) := by
  refine KeyT.two Tryz.underlying225 ?_ ?_
  · intro e a b w
    rfl
  · intro x y w
    have := eqd225 9998 w x.1 y.1 x.2 y.2
    rw [and_dec, show (x.1 = y.1 ∧ x.2 = y.2) = (x = y) by rw [Prod.ext_iff]] at this
    exact equal_at 9998 2 rfl this
theorem zero3 (w : World) : (zeroValue 3).run Tryz.prog w = .ok (.int .i64 0) w := rfl
end Go.Proofs.YtjjdabihnmilgaaGreat.A
namespace Go.Proofs.YtjjdabihnmilgaaGreat.A
set_option linter.unusedVariables false
structure Name where
  sp : ByteArray
  pf : ByteArray
  lc : ByteArray
structure Attr where
  name : Name
  value : ByteArray
structure Node where
  kind : Int
  name : Name
  pub : ByteArray
  sys : ByteArray
  data : List Int
  attrs : List Attr
  parent : Int
  kids : List Int
  doc : Int
  host : Int
  shadow : Int
  mode : Int
  manual : Bool
  html : Bool
def es : ByteArray := ⟨#[]⟩
def Name.iv (n : Name) : List IV := [.str n.sp, .str n.pf, .str n.lc]
def Attr.iv (a : Attr) : List IV := [.str a.name.sp, .str a.name.pf, .str a.name.lc, .str a.value]
def u16 (x : Int) : List IV := [.int .u16 x]
def i64 (x : Int) : List IV := [.int .i64 x]
def Node.iv (n : Node) : List IV := [.int .u8 n.kind, .str n.name.sp, .str n.name.pf, .str n.name.lc, .str n.pub, .str n.sys, .sl (n.data.map u16), .sl (n.attrs.map Attr.iv), .int .i64 n.parent, .sl (n.kids.map i64), .int .i64 n.doc, .int .i64 n.host, .int .i64 n.shadow, .int .u8 n.mode, .bool n.manual, .bool n.html]
def Name.av (n : Name) : AV := .agg (n.iv.map .imm)
def Attr.av (a : Attr) : AV := .agg (a.iv.map .imm)
def Node.av (n : Node) : AV := .agg (n.iv.map .imm)
def fav (f : List Node) : AV := .agg [.imm (.sl (f.map Node.iv))]
def iav (n : Int) : AV := .imm (.int .i64 n)
def kav (n : Int) : AV := .imm (.int .u8 n)
def bav (b : Bool) : AV := .imm (.bool b)
def sav (s : ByteArray) : AV := .imm (.str s)
def n0 : Node := ⟨0, ⟨es, es, es⟩, es, es, [], [], 0, [], 0, 0, 0, 0, false, false⟩
def a0 : Attr := ⟨⟨es, es, es⟩, es⟩
instance : Inhabited Node := ⟨n0⟩
instance : Inhabited Attr := ⟨a0⟩
end Go.Proofs.YtjjdabihnmilgaaGreat.A
namespace Go.Proofs.YtjjdabihnmilgaaGreat.A
set_option linter.unusedVariables false
set_option linter.unusedSimpArgs false
set_option maxRecDepth 100000
theorem take_next {α : Type} [Inhabited α] {l : List α} {i : Int} (h0 : 0 ≤ i) (h1 : i < l.length) : l.take (i + 1).toNat = l.take i.toNat ++ [atI l i] := by
  rw [show (i + 1).toNat = i.toNat + 1 by omega, List.take_succ_eq_append_getElem (by omega)]
  unfold atI
  rw [List.getD_eq_getElem?_getD, List.getElem?_eq_getElem (by omega)]
  rfl
theorem take_end {α : Type} {l : List α} {i : Int} (h : l.length ≤ i) : l.take i.toNat = l := List.take_of_length_le (by omega)
theorem atI_mem {α : Type} [Inhabited α] {l : List α} {i : Int} (h0 : 0 ≤ i) (h1 : i < l.length) : atI l i ∈ l := List.mem_of_getElem? (atI_get h0 h1)
def nodeAt (f : List Node) (h : Int) : Node := if 1 ≤ h ∧ h ≤ f.length then atI f (h - 1) else n0
def inB (f : List Node) (h : Int) : Bool := decide (1 ≤ h ∧ h ≤ f.length)
theorem at_c (f : List Node) (h : Int) (hl : f.length ≤ 1000000000) : PureC Tryz.prog 194 [fav f, iav h] (.tup [(nodeAt f h).av, bav (inB f h)]) := by
  unfold nodeAt inB
  refine PureC.mk tabs Tryz.func194 22 _ rfl rfl rfl rfl rfl ?_
  intro w0 X
  (repeat' (first | ((with_reducible show AL _ _ _ _ _); first | (refine AL.step tabs rfl ?_; try dsimp only [len, List.nil_append, List.cons_append]) | refine AL.nil ?_ | (refine AL.gsplitE rfl rfl rfl (fun hc => ?_) (fun hc => ?_) <;> (fail_if_success (exact absurd hc (by decide))) <;> (try simp only [hsx] at hc) <;> (try first | (exfalso; omega) | contradiction | (exfalso; simp [dec_eq] at hc; done))) | (refine AL.op rfl (OpOK.ari64 rfl rfl rfl rfl rfl (by omega) (by omega)) ?_) | (refine AL.op rfl (OpOK.index_map tabs rfl rfl rfl rfl rfl rfl rfl (fun _ => rfl) (by decide) (by omega) (by omega)) ?_)) | refine AW.seq ?_ | refine AW.region ?_ | refine Then.norm ?_ | refine AW.skip ?_ | refine AW.condT rfl ?_ | refine AW.condF rfl ?_ | (refine AW.cond rfl (fun hc => ?_) (fun hc => ?_) <;> (try simp only [hsx] at hc) <;> (try first | (exfalso; omega) | contradiction | (exfalso; simp [dec_eq] at hc; done))) | refine AW.ret ?_ | refine Then.ret ?_))
  · rw [if_neg (by omega), show decide (1 ≤ h ∧ h ≤ f.length) = false by simp; omega]
    exact RQ.fin rfl rfl rfl
  · rw [if_neg (by omega), show decide (1 ≤ h ∧ h ≤ f.length) = false by simp; omega]
    exact RQ.fin rfl rfl rfl
  · rw [if_pos (by omega), show decide (1 ≤ h ∧ h ≤ f.length) = true by simp; omega]
    exact RQ.fin rfl rfl rfl
theorem kind_c (f : List Node) (h : Int) (hl : f.length ≤ 1000000000) : PureC Tryz.prog 196 [fav f, iav h] (kav (nodeAt f h).kind) := by
  refine PureC.mk tabs Tryz.func196 15 _ rfl rfl rfl rfl rfl ?_
  intro w0 X
  (repeat' (first | ((with_reducible show AL _ _ _ _ _); first | (refine AL.step tabs rfl ?_; try dsimp only [len, List.nil_append, List.cons_append]) | refine AL.op rfl (OpOK.call rfl rfl rfl rfl (at_c _ _ hl) rfl) ?_ | refine AL.nil ?_) | refine AW.seq ?_ | refine AW.region ?_ | refine Then.norm ?_ | refine AW.skip ?_ | refine AW.ret ?_ | refine Then.ret ?_))
  exact RQ.fin rfl rfl rfl
def aboveOf (n : Node) : Int := if n.kind = 12 then n.host else n.parent
theorem above_c (n : Node) : PureC Tryz.prog 189 [n.av] (iav (aboveOf n)) := by
  refine PureC.mk tabs Tryz.func189 10 _ rfl rfl rfl rfl rfl ?_
  intro w0 X
  unfold aboveOf
  (repeat' (first | ((with_reducible show AL _ _ _ _ _); first | (refine AL.step tabs rfl ?_; try dsimp only [len, List.nil_append, List.cons_append]) | refine AL.nil ?_) | refine AW.seq ?_ | refine AW.region ?_ | refine Then.norm ?_ | refine AW.skip ?_ | refine AW.condT rfl ?_ | refine AW.condF rfl ?_ | (refine AW.cond rfl (fun hc => ?_) (fun hc => ?_) <;> (try simp only [hsx] at hc) <;> (try first | (exfalso; omega) | contradiction | (exfalso; simp [dec_eq] at hc; done))) | refine AW.ret ?_ | refine Then.ret ?_))
  · rw [if_pos hc]; exact RQ.fin rfl rfl rfl
  · rw [if_neg hc]; exact RQ.fin rfl rfl rfl
def sr (s : ByteArray) : List IV := [.str s]
def shortB (l : List ByteArray) : Bool := l.all fun s => decide (s.size ≤ 1024)
theorem short_c (l : List ByteArray) (hl : l.length ≤ 1000000000) : PureC Tryz.prog 193 [.imm (.sl (l.map sr))] (bav (shortB l)) := by
  refine PureC.mk tabs Tryz.func193 15 _ rfl rfl rfl rfl rfl ?_
  intro w0 X
  (repeat' (first | ((with_reducible show AL _ _ _ _ _); first | (refine AL.step tabs rfl ?_; try dsimp only [len, List.nil_append, List.cons_append]) | refine AL.nil ?_ | (refine AL.op rfl (OpOK.ari64 rfl rfl rfl rfl rfl (by omega) (by omega)) ?_) | (refine AL.op rfl (OpOK.index_map tabs rfl rfl rfl rfl rfl rfl rfl (fun _ => rfl) (by decide) (by omega) (by omega)) ?_)) | fail | refine AW.seq ?_ | refine AW.region ?_ | refine Then.norm ?_ | refine AW.skip ?_ | refine AW.block ?_ | refine InB.norm ?_ | refine AW.condT rfl ?_ | refine AW.condF rfl ?_ | (refine AW.cond rfl (fun hc => ?_) (fun hc => ?_) <;> (try simp only [hsx] at hc) <;> (try first | (exfalso; omega) | contradiction | (exfalso; simp [dec_eq] at hc; done))) | refine AW.ret ?_ | refine AW.exit ?_ | refine Then.ret ?_ | refine Then.exit ?_ | refine InB.ret ?_ | refine InB.here ?_ | refine InB.off rfl ?_ | refine Rnd.ret ?_ | refine Rnd.exit ?_))
  refine AW.loop (α := Int) (fun i => ⟨[(5, .imm (.sl (l.map sr))), (6, iav (l.map sr).length), (7, iav i)], []⟩) (fun i => 0 ≤ i ∧ i ≤ l.length ∧ shortB (l.take i.toNat) = true) (fun i => (l.length - i).toNat) 0 (Le.cut 0 rfl ⟨rfl, rfl, rfl, trivial⟩ rfl rfl (Nat.zero_le _)) ⟨by omega, by omega, rfl⟩ ?_
  intro i ⟨h0, h1, h2⟩
  (repeat' (first | ((with_reducible show AL _ _ _ _ _); first | (refine AL.step tabs rfl ?_; try dsimp only [len, List.nil_append, List.cons_append]) | refine AL.nil ?_ | (refine AL.op rfl (OpOK.ari64 rfl rfl rfl rfl rfl (by omega) (by omega)) ?_) | (refine AL.op rfl (OpOK.index_map tabs rfl rfl rfl rfl rfl rfl rfl (fun _ => rfl) (by decide) (by omega) (by omega)) ?_)) | refine AW.seq ?_ | refine AW.region ?_ | refine Then.norm ?_ | refine AW.skip ?_ | refine AW.block ?_ | refine InB.norm ?_ | refine AW.condT rfl ?_ | refine AW.condF rfl ?_ | (refine AW.cond rfl (fun hc => ?_) (fun hc => ?_) <;> (try simp only [hsx] at hc) <;> (try first | (exfalso; omega) | contradiction | (exfalso; simp [dec_eq] at hc; done))) | refine AW.ret ?_ | refine AW.exit ?_ | refine Then.ret ?_ | refine Then.exit ?_ | refine InB.ret ?_ | refine InB.here ?_ | refine InB.off rfl ?_ | refine Rnd.ret ?_ | refine Rnd.exit ?_))
  · have e : shortB l = false := by
      unfold shortB
      rw [List.all_eq_false]
      exact ⟨_, atI_mem h0 (by assumption), by simp; omega⟩
    rw [e]; exact RQ.fin rfl rfl rfl
  · refine Rnd.norm (i + 1) (Le.cut 0 rfl ⟨rfl, rfl, rfl, trivial⟩ rfl rfl (Nat.zero_le _)) ⟨by omega, by omega, ?_⟩ (by omega)
    rw [take_next h0 (by assumption)]
    unfold shortB at h2 ⊢
    rw [List.all_append, h2]
    simp; omega
  · rw [take_end hc] at h2
    rw [h2]; exact RQ.fin rfl rfl rfl
noncomputable def namedB (n : Name) : Bool := !dec (n.lc = es) && shortB [n.sp, n.pf, n.lc] && (dec (n.pf = es) || !dec (n.sp = es))
theorem named_c (n : Name) : PureC Tryz.prog 214 [n.av] (bav (namedB n)) := by
  refine PureC.mk tabs Tryz.func214 26 _ rfl rfl rfl rfl rfl ?_
  intro w0 X
  unfold namedB
  (repeat' (first | ((with_reducible show AL _ _ _ _ _); first | (refine AL.step tabs rfl ?_; try dsimp only [len, List.nil_append, List.cons_append]) | refine AL.op rfl (OpOK.callfz rfl rfl rfl rfl (short_c [n.sp, n.pf, n.lc] (by simp)) rfl rfl) ?_ | refine AL.nil ?_ | (refine AL.gsplitE rfl rfl rfl (fun hc => ?_) (fun hc => ?_) <;> (fail_if_success (exact absurd hc (by decide))) <;> (try simp only [hsx] at hc) <;> (try first | (exfalso; omega) | contradiction | (exfalso; simp [dec_eq] at hc; done)))) | refine AW.seq ?_ | refine AW.region ?_ | refine Then.norm ?_ | refine AW.skip ?_ | refine AW.ret ?_ | refine Then.ret ?_))
  all_goals (first | exact RQ.fin rfl rfl rfl | exact RQ.fin' rfl rfl rfl | (refine RQ.fin rfl rfl (congrArg bav ?_); simp_all [es, dec_T, dec_F]; done))
def cntB (l : List Int) (h : Int) : Nat := l.countP fun x => x == h
theorem once_c (l : List Int) (h : Int) (hl : l.length ≤ 1000000000) : PureC Tryz.prog 195 [.imm (.sl (l.map i64)), iav h] (bav (dec ((cntB l h : Int) = 1))) := by
  refine PureC.mk tabs Tryz.func195 22 [.tmp 4] rfl rfl rfl rfl rfl ?_; intro w0 X
  (repeat' (first | ((with_reducible show AL _ _ _ _ _); first | (refine AL.step tabs rfl ?_; try dsimp only [len, List.nil_append, List.cons_append]) | refine AL.nil ?_ | (refine AL.op rfl (OpOK.ari64 rfl rfl rfl rfl rfl (by omega) (by omega)) ?_) | (refine AL.op rfl (OpOK.index_map tabs rfl rfl rfl rfl rfl rfl rfl (fun _ => rfl) (by decide) (by omega) (by omega)) ?_)) | fail | refine AW.seq ?_ | refine AW.region ?_ | refine Then.norm ?_ | refine AW.skip ?_ | refine AW.block ?_ | refine InB.norm ?_ | refine AW.condT rfl ?_ | refine AW.condF rfl ?_ | (refine AW.cond rfl (fun hc => ?_) (fun hc => ?_) <;> (try simp only [hsx] at hc) <;> (try first | (exfalso; omega) | contradiction | (exfalso; simp [dec_eq] at hc; done))) | refine AW.ret ?_ | refine AW.exit ?_ | refine Then.ret ?_ | refine Then.exit ?_ | refine InB.ret ?_ | refine InB.here ?_ | refine InB.off rfl ?_ | refine Rnd.ret ?_ | refine Rnd.exit ?_))
  refine AW.loop (α := Int) (fun i => ⟨[(1, iav h), (5, iav (cntB (l.take i.toNat) h)), (8, .imm (.sl (l.map i64))), (9, iav (l.map i64).length), (10, iav i)], []⟩) (fun i => 0 ≤ i ∧ i ≤ l.length) (fun i => (l.length - i).toNat) 0 (Le.cut 0 rfl ⟨rfl, rfl, rfl, rfl, rfl, trivial⟩ rfl rfl (Nat.zero_le _)) ⟨by omega, by omega⟩ ?_
  intro i ⟨h0, h1⟩
  have hb : cntB (l.take i.toNat) h ≤ l.length := Nat.le_trans List.countP_le_length (by simp; omega)
  (repeat' (first | ((with_reducible show AL _ _ _ _ _); first | (refine AL.step tabs rfl ?_; try dsimp only [len, List.nil_append, List.cons_append]) | refine AL.nil ?_ | (refine AL.op rfl (OpOK.ari64 rfl rfl rfl rfl rfl (by omega) (by omega)) ?_) | (refine AL.op rfl (OpOK.index_map tabs rfl rfl rfl rfl rfl rfl rfl (fun _ => rfl) (by decide) (by omega) (by omega)) ?_)) | refine AW.seq ?_ | refine AW.region ?_ | refine Then.norm ?_ | refine AW.skip ?_ | refine AW.block ?_ | refine InB.norm ?_ | refine AW.condT rfl ?_ | refine AW.condF rfl ?_ | (refine AW.cond rfl (fun hc => ?_) (fun hc => ?_) <;> (try simp only [hsx] at hc) <;> (try first | (exfalso; omega) | contradiction | (exfalso; simp [dec_eq] at hc; done))) | refine AW.ret ?_ | refine AW.exit ?_ | refine Then.ret ?_ | refine Then.exit ?_ | refine InB.ret ?_ | refine InB.here ?_ | refine InB.off rfl ?_ | refine Rnd.ret ?_ | refine Rnd.exit ?_))
  · have e : cntB (l.take (i + 1).toNat) h = cntB (l.take i.toNat) h + 1 := by
      rw [take_next h0 (by assumption)]
      unfold cntB
      rw [List.countP_append]
      simp [hc]
    refine Rnd.norm (i + 1) (Le.cut 0 rfl ⟨rfl, by simp only [e]; rfl, rfl, rfl, rfl, trivial⟩ rfl rfl (Nat.zero_le _)) ⟨by omega, by omega⟩ (by omega)
  · have e : cntB (l.take (i + 1).toNat) h = cntB (l.take i.toNat) h := by
      rw [take_next h0 (by assumption)]
      unfold cntB
      rw [List.countP_append]
      simp [hc]
    refine Rnd.norm (i + 1) (Le.cut 0 rfl ⟨rfl, by simp only [e]; rfl, rfl, rfl, rfl, trivial⟩ rfl rfl (Nat.zero_le _)) ⟨by omega, by omega⟩ (by omega)
  · rw [take_end hc]; exact RQ.fin rfl rfl rfl
end Go.Proofs.YtjjdabihnmilgaaGreat.A
namespace Go.Proofs.YtjjdabihnmilgaaGreat.A
set_option linter.unusedVariables false
set_option linter.unusedSimpArgs false
set_option maxRecDepth 100000
set_option maxHeartbeats 4000000
theorem drop_next {α : Type} [Inhabited α] {l : List α} {i : Int} (h0 : 0 ≤ i) (h1 : i < l.length) : l.drop i.toNat = atI l i :: l.drop (i + 1).toNat := by
  rw [show (i + 1).toNat = i.toNat + 1 by omega]
  unfold atI
  rw [List.getD_eq_getElem?_getD, List.getElem?_eq_getElem (by omega)]
  exact List.drop_eq_getElem_cons (by omega)
theorem drop_end {α : Type} {l : List α} {i : Int} (h : l.length ≤ i) : l.drop i.toNat = [] := List.drop_eq_nil_of_le (by omega)
def key (n : Name) : ByteArray × ByteArray := (n.sp, n.lc)
theorem keyOf_c (n : Name) : PureC Tryz.prog 215 [n.av] (.agg [sav (key n).1, sav (key n).2]) := by
  refine PureC.mk tabs Tryz.func215 8 [.cell 2 225] rfl rfl rfl rfl rfl ?_; intro w0 X
  (repeat' (first | ((with_reducible show AL _ _ _ _ _); first | (refine AL.step tabs rfl ?_; try dsimp only [len, List.nil_append, List.cons_append]) | refine AL.nil ?_) | refine AW.seq ?_ | refine AW.region ?_ | refine Then.norm ?_ | refine AW.skip ?_ | refine AW.ret ?_ | refine Then.ret ?_))
  exact RQ.fin' rfl rfl rfl
structure Trait where
  known : Bool
  data : Bool
  kids : Bool
  hung : Bool
  full : Bool
  locl : Bool
def Trait.av (t : Trait) : AV := .agg [bav t.known, bav t.data, bav t.kids, bav t.hung, bav t.full, bav t.locl]
def traitsOf (k : Int) : Trait :=
  if k = 1 then ⟨true, false, true, true, true, false⟩ else
  if k = 3 ∨ k = 4 ∨ k = 8 then ⟨true, true, false, true, false, false⟩ else
  if k = 7 then ⟨true, true, false, true, false, true⟩ else
  if k = 10 then ⟨true, false, false, true, false, true⟩ else
  if k = 9 ∨ k = 11 ∨ k = 12 then ⟨true, false, true, false, false, false⟩ else ⟨false, false, false, false, false, false⟩
theorem traits_c (k : Int) : PureC Tryz.prog 190 [kav k] (traitsOf k).av := by
  have e : ∀ t, traitsOf k = t → (PureC Tryz.prog 190 [kav k] t.av → PureC Tryz.prog 190 [kav k] (traitsOf k).av) := fun t h h1 => by rw [h]; exact h1
  refine PureC.mk tabs Tryz.func190 24 [.cell 2 199] rfl rfl rfl rfl rfl ?_; intro w0 X
  (repeat' (first | ((with_reducible show AL _ _ _ _ _); first | (refine AL.step tabs rfl ?_; try dsimp only [len, List.nil_append, List.cons_append]) | refine AL.nil ?_) | refine AW.seq ?_ | refine AW.region ?_ | refine Then.norm ?_ | refine AW.skip ?_ | refine AW.block ?_ | refine InB.norm ?_ | refine AW.condT rfl ?_ | refine AW.condF rfl ?_ | (refine AW.cond rfl (fun hc => ?_) (fun hc => ?_) <;> (try simp only [hsx] at hc) <;> (try first | (exfalso; omega) | contradiction | (exfalso; simp [dec_eq] at hc; done))) | refine AW.ret ?_ | refine AW.exit ?_ | refine Then.ret ?_ | refine Then.exit ?_ | refine InB.ret ?_ | refine InB.here ?_ | refine InB.off rfl ?_))
  all_goals (rw [show traitsOf k = _ by unfold traitsOf; simp [*]; rfl]; first | exact RQ.fin rfl rfl rfl | exact RQ.fin' rfl rfl rfl)
noncomputable def namingB (n : Node) (t : Trait) : Bool :=
  if t.full = true then namedB n.name else
  if t.locl = true then dec (n.name.lc ≠ es) && shortB [n.name.lc] && dec (n.name.sp = es ∧ n.name.pf = es) else dec (n.name.sp = es ∧ n.name.pf = es ∧ n.name.lc = es)
theorem naming_c (n : Node) (t : Trait) : PureC Tryz.prog 191 [n.av, t.av] (bav (namingB n t)) := by
  refine PureC.mk tabs Tryz.func191 38 [.tmp 4] rfl rfl rfl rfl rfl ?_; intro w0 X
  (repeat' (first | ((with_reducible show AL _ _ _ _ _); first | (refine AL.step tabs rfl ?_; try dsimp only [len, List.nil_append, List.cons_append]) | refine AL.op rfl (OpOK.call rfl rfl rfl rfl (named_c n.name) rfl) ?_ | refine AL.op rfl (OpOK.callfz rfl rfl rfl rfl (short_c [n.name.lc] (by simp)) rfl rfl) ?_ | refine AL.nil ?_ | (refine AL.gsplitE rfl rfl rfl (fun hc => ?_) (fun hc => ?_) <;> (fail_if_success (exact absurd hc (by decide))) <;> (try simp only [hsx] at hc) <;> (try first | (exfalso; omega) | contradiction | (exfalso; simp [dec_eq] at hc; done))) | (refine AL.op rfl (OpOK.eqs rfl rfl rfl rfl eqt75 rfl rfl) ?_)) | refine AW.seq ?_ | refine AW.region ?_ | refine Then.norm ?_ | refine AW.skip ?_ | refine AW.block ?_ | refine InB.norm ?_ | refine AW.condT rfl ?_ | refine AW.condF rfl ?_ | (refine AW.cond rfl (fun hc => ?_) (fun hc => ?_) <;> (try simp only [hsx] at hc) <;> (try first | (exfalso; omega) | contradiction | (exfalso; simp [dec_eq] at hc; done))) | refine AW.ret ?_ | refine AW.exit ?_ | refine Then.ret ?_ | refine Then.exit ?_ | refine InB.ret ?_ | refine InB.here ?_ | refine InB.off rfl ?_))
  all_goals (refine RQ.fin rfl rfl (congrArg bav ?_); simp_all [namingB, es, dec_T, dec_F, and_dec])
def famGo (K : Int → Int) (doc : Bool) : List Int → Int → Int → Bool
  | [], e, d => !doc || (decide (e < 2) && decide (d < 2))
  | k :: r, e, d =>
    if K k = 1 then famGo K doc r (e + 1) d else
    if K k = 10 then (if doc = false ∨ 0 < e then false else famGo K doc r e (d + 1)) else
    if K k = 3 ∨ K k = 4 then (if doc = true then false else famGo K doc r e d) else
    if K k = 8 ∨ K k = 7 then famGo K doc r e d else false
noncomputable def famB (f : List Node) (n : Node) : Bool := famGo (fun k => (nodeAt f k).kind) (dec (n.kind = 9)) n.kids 0 0
theorem family_c (f : List Node) (n : Node) (hl : f.length ≤ 1000000000) (hk : n.kids.length ≤ 1000000000) : PureC Tryz.prog 216 [fav f, n.av] (bav (famB f n)) := by
  refine PureC.mk tabs Tryz.func216 55 [.tmp 4] rfl rfl rfl rfl rfl ?_; intro w0 X
  (repeat' (first | ((with_reducible show AL _ _ _ _ _); first | (refine AL.step tabs rfl ?_; try dsimp only [len, List.nil_append, List.cons_append]) | refine AL.nil ?_ | (refine AL.gsplitE rfl rfl rfl (fun hc => ?_) (fun hc => ?_) <;> (fail_if_success (exact absurd hc (by decide))) <;> (try simp only [hsx] at hc) <;> (try first | (exfalso; omega) | contradiction | (exfalso; simp [dec_eq] at hc; done))) | (refine AL.op rfl (OpOK.ari64 rfl rfl rfl rfl rfl (by omega) (by omega)) ?_) | (refine AL.op rfl (OpOK.index_map tabs rfl rfl rfl rfl rfl rfl rfl (fun _ => rfl) (by decide) (by omega) (by omega)) ?_)) | fail | refine AW.seq ?_ | refine AW.region ?_ | refine Then.norm ?_ | refine AW.skip ?_ | refine AW.block ?_ | refine InB.norm ?_ | refine AW.condT rfl ?_ | refine AW.condF rfl ?_ | (refine AW.cond rfl (fun hc => ?_) (fun hc => ?_) <;> (try simp only [hsx] at hc) <;> (try first | (exfalso; omega) | contradiction | (exfalso; simp [dec_eq] at hc; done))) | refine AW.ret ?_ | refine AW.exit ?_ | refine Then.ret ?_ | refine Then.exit ?_ | refine InB.ret ?_ | refine InB.here ?_ | refine InB.off rfl ?_ | refine Rnd.ret ?_ | refine Rnd.exit ?_))
  refine AW.loop (α := Int × Int × Int) (fun x => ⟨[(2, .ptr 0 1 0 0), (5, bav (dec (n.kind = 9))), (6, iav x.2.1), (7, iav x.2.2), (14, .imm (.sl (n.kids.map i64))), (15, iav (n.kids.map i64).length), (16, iav x.1)], [⟨24, 1, [[.imm (.sl (f.map Node.iv))]]⟩]⟩) (fun x => 0 ≤ x.1 ∧ x.1 ≤ n.kids.length ∧ 0 ≤ x.2.1 ∧ x.2.1 ≤ x.1 ∧ 0 ≤ x.2.2 ∧ x.2.2 ≤ x.1 ∧ famGo (fun k => (nodeAt f k).kind) (dec (n.kind = 9)) (n.kids.drop x.1.toNat) x.2.1 x.2.2 = famB f n) (fun x => (n.kids.length - x.1).toNat) (0, 0, 0) (Le.cut 1 rfl (by repeat' (first | exact trivial | refine ⟨rfl, ?_⟩)) rfl rfl (Nat.zero_le _)) ⟨by simp, by simp, by simp, by simp, by simp, by simp, rfl⟩ ?_
  rintro ⟨i, e, d⟩ ⟨h0, h1, h3, h4, h5, h6, h2⟩
  simp only at h0 h1 h2 h3 h4 h5 h6
  (repeat' (first | ((with_reducible show AL _ _ _ _ _); first | (refine AL.step tabs rfl ?_; try dsimp only [len, List.nil_append, List.cons_append]) | refine AL.op rfl (OpOK.call rfl rfl rfl rfl (kind_c f _ hl) rfl) ?_ | refine AL.nil ?_ | (refine AL.gsplitE rfl rfl rfl (fun hc => ?_) (fun hc => ?_) <;> (fail_if_success (exact absurd hc (by decide))) <;> (try simp only [hsx] at hc) <;> (try first | (exfalso; omega) | contradiction | (exfalso; simp [dec_eq] at hc; done))) | (refine AL.op rfl (OpOK.ari64 rfl rfl rfl rfl rfl (by omega) (by omega)) ?_) | (refine AL.op rfl (OpOK.index_map tabs rfl rfl rfl rfl rfl rfl rfl (fun _ => rfl) (by decide) (by omega) (by omega)) ?_)) | refine AW.seq ?_ | refine AW.region ?_ | refine Then.norm ?_ | refine AW.skip ?_ | refine AW.block ?_ | refine InB.norm ?_ | refine AW.condT rfl ?_ | refine AW.condF rfl ?_ | (refine AW.cond rfl (fun hc => ?_) (fun hc => ?_) <;> (try simp only [hsx] at hc) <;> (try first | (exfalso; omega) | contradiction | (exfalso; simp [dec_eq] at hc; done))) | refine AW.ret ?_ | refine AW.exit ?_ | refine Then.ret ?_ | refine Then.exit ?_ | refine InB.ret ?_ | refine InB.here ?_ | refine InB.off rfl ?_ | refine Rnd.ret ?_ | refine Rnd.exit ?_))
  all_goals first
    | (refine RQ.fin rfl rfl (congrArg bav ?_); rw [← h2]; clear h2; (first | rw [drop_next h0 (by assumption)] | rw [drop_end (by assumption)]); simp [famGo, dec_T, dec_F, dec_eq, *] <;> omega)
    | (refine Rnd.norm (i + 1, e + 1, d) (Le.cut 1 rfl ⟨rfl, rfl, rfl, rfl, rfl, rfl, rfl, trivial⟩ rfl rfl (Nat.zero_le _)) ⟨?_, ?_, ?_, ?_, ?_, ?_, ?_⟩ ?_ <;> simp only <;> first | omega | (rw [← h2]; clear h2; rw [drop_next h0 (by assumption)]; simp [famGo, dec_T, dec_F, dec_eq, *]; done))
    | (refine Rnd.norm (i + 1, e, d + 1) (Le.cut 1 rfl ⟨rfl, rfl, rfl, rfl, rfl, rfl, rfl, trivial⟩ rfl rfl (Nat.zero_le _)) ⟨?_, ?_, ?_, ?_, ?_, ?_, ?_⟩ ?_ <;> simp only <;> first | omega | (rw [← h2]; clear h2; rw [drop_next h0 (by assumption)]; simp [famGo, dec_T, dec_F, dec_eq, *]; done))
    | (refine Rnd.norm (i + 1, e, d) (Le.cut 1 rfl ⟨rfl, rfl, rfl, rfl, rfl, rfl, rfl, trivial⟩ rfl rfl (Nat.zero_le _)) ⟨?_, ?_, ?_, ?_, ?_, ?_, ?_⟩ ?_ <;> simp only <;> first | omega | (rw [← h2]; clear h2; rw [drop_next h0 (by assumption)]; simp [famGo, dec_T, dec_F, dec_eq, *]; done))
end Go.Proofs.YtjjdabihnmilgaaGreat.A
namespace Go.Proofs.YtjjdabihnmilgaaGreat.A
set_option linter.unusedVariables false
set_option linter.unusedSimpArgs false
set_option maxRecDepth 100000
set_option maxHeartbeats 4000000
noncomputable def kidsGo (f : List Node) (h doc : Int) (seen : List Int) : List Int → Bool
  | [] => true
  | k :: r => if inB f k = false then false else if dec (k ∈ seen) = true then false else if dec ((nodeAt f k).parent = h) = false then false else if dec ((nodeAt f k).doc = doc) = false then false else kidsGo f h doc (seen ++ [k]) r
noncomputable def kidsB (f : List Node) (h : Int) (n : Node) : Bool := kidsGo f h n.doc [] n.kids && famB f n
theorem kidsOf_c (f : List Node) (h : Int) (n : Node) (hl : f.length ≤ 1000000000) (hk : n.kids.length ≤ 1000000000) : PureC Tryz.prog 197 [fav f, iav h, n.av] (bav (kidsB f h n)) := by
  refine PureC.mk tabs Tryz.func197 55 [.tmp 6] rfl rfl rfl rfl rfl ?_; intro w0 X
  (repeat' (first | ((with_reducible show AL _ _ _ _ _); first | (refine AL.step tabs rfl ?_; try dsimp only [len, List.nil_append, List.cons_append]) | refine AL.makeMap rfl rfl rfl (fun g hg => ?_) | refine AL.nil ?_ | (refine AL.gsplitE rfl rfl rfl (fun hc => ?_) (fun hc => ?_) <;> (fail_if_success (exact absurd hc (by decide))) <;> (try simp only [hsx] at hc) <;> (try first | (exfalso; omega) | contradiction | (exfalso; simp [dec_eq] at hc; done))) | (refine AL.op rfl (OpOK.ari64 rfl rfl rfl rfl rfl (by omega) (by omega)) ?_) | (refine AL.op rfl (OpOK.index_map tabs rfl rfl rfl rfl rfl rfl rfl (fun _ => rfl) (by decide) (by omega) (by omega)) ?_)) | refine AW.seq ?_ | refine AW.region ?_ | refine Then.norm ?_ | refine AW.skip ?_ | refine AW.block ?_ | refine InB.norm ?_ | refine AW.condT rfl ?_ | refine AW.condF rfl ?_ | (refine AW.cond rfl (fun hc => ?_) (fun hc => ?_) <;> (try simp only [hsx] at hc) <;> (try first | (exfalso; omega) | contradiction | (exfalso; simp [dec_eq] at hc; done))) | refine AW.ret ?_ | refine AW.exit ?_ | refine Then.ret ?_ | refine Then.exit ?_ | refine InB.ret ?_ | refine InB.here ?_ | refine InB.off rfl ?_ | refine Rnd.ret ?_ | refine Rnd.exit ?_))
  refine AW.loop (α := Int) (fun i => ⟨[(1, iav h), (3, .ptr 0 1 0 0), (5, .ptr 1 1 0 0), (7, .mp g ((n.kids.take i.toNat).map i64) ((n.kids.take i.toNat).map fun _ => [.int .i64 1])), (14, .imm (.sl (n.kids.map i64))), (15, iav (n.kids.map i64).length), (16, iav i)], [⟨24, 1, [[.imm (.sl (f.map Node.iv))]]⟩, ⟨81, 16, [n.iv.map .imm]⟩]⟩) (fun i => 0 ≤ i ∧ i ≤ n.kids.length ∧ kidsGo f h n.doc (n.kids.take i.toNat) (n.kids.drop i.toNat) = kidsGo f h n.doc [] n.kids) (fun i => (n.kids.length - i).toNat) 0 (Le.cut 2 rfl ⟨rfl, rfl, rfl, rfl, rfl, rfl, rfl, trivial⟩ rfl rfl (Nat.zero_le _)) ⟨by omega, by omega, rfl⟩ ?_
  intro i ⟨h0, h1, h2⟩
  (repeat' (first | ((with_reducible show AL _ _ _ _ _); first | (refine AL.step tabs rfl ?_; try dsimp only [len, List.nil_append, List.cons_append]) | refine AL.op rfl (OpOK.call rfl rfl rfl rfl (at_c f (atI n.kids i) hl) rfl) ?_ | refine AL.op rfl (OpOK.call rfl rfl rfl rfl (family_c f n hl hk) rfl) ?_ | refine AL.op rfl (OpOK.look0 (kf := i64) key3 Tryz.underlying228 zero3 rfl rfl rfl rfl (q := atI n.kids i) rfl (by assumption)) ?_ | refine AL.op rfl (OpOK.look1 (kf := i64) key3 Tryz.underlying228 zero3 rfl rfl rfl rfl rfl (q := atI n.kids i) rfl) ?_ | refine AL.op rfl (OpOK.put0 (kf := i64) key3 Tryz.underlying228 rfl (.inl rfl) hg rfl rfl (q := atI n.kids i) rfl (v := [.int .i64 (0 + 1)]) rfl (fun M z hz => pkA_inv hz) (by assumption) (by repeat' (first | exact trivial | refine ⟨rfl, ?_⟩)) rfl) ?_ | refine AL.nil ?_ | (refine AL.gsplitE rfl rfl rfl (fun hc => ?_) (fun hc => ?_) <;> (fail_if_success (exact absurd hc (by decide))) <;> (try simp only [hsx] at hc) <;> (try first | (exfalso; omega) | contradiction | (exfalso; simp [dec_eq] at hc; done))) | (refine AL.op rfl (OpOK.ari64 rfl rfl rfl rfl rfl (by omega) (by omega)) ?_) | (refine AL.op rfl (OpOK.index_map tabs rfl rfl rfl rfl rfl rfl rfl (fun _ => rfl) (by decide) (by omega) (by omega)) ?_)) | refine AW.seq ?_ | refine AW.region ?_ | refine Then.norm ?_ | refine AW.skip ?_ | refine AW.block ?_ | refine InB.norm ?_ | refine AW.condT rfl ?_ | refine AW.condF rfl ?_ | (refine AW.cond rfl (fun hc => ?_) (fun hc => ?_) <;> (try simp only [hsx] at hc) <;> (try first | (exfalso; omega) | contradiction | (exfalso; simp [dec_eq] at hc; done))) | refine AW.ret ?_ | refine AW.exit ?_ | refine Then.ret ?_ | refine Then.exit ?_ | refine InB.ret ?_ | refine InB.here ?_ | refine InB.off rfl ?_ | refine Rnd.ret ?_ | refine Rnd.exit ?_))
  · refine RQ.fin rfl rfl (congrArg bav ?_)
    unfold kidsB
    rw [← h2, drop_next h0 (by assumption)]; simp [kidsGo, hc]
  · refine RQ.fin rfl rfl (congrArg bav ?_)
    unfold kidsB
    rw [← h2, drop_next h0 (by assumption), kidsGo, dec_pos hc]; simp
  · refine RQ.fin rfl rfl (congrArg bav ?_)
    unfold kidsB
    rw [← h2, drop_next h0 (by assumption), kidsGo, dec_neg hc]; simp
  · refine RQ.fin rfl rfl (congrArg bav ?_)
    unfold kidsB
    rw [← h2, drop_next h0 (by assumption), kidsGo, dec_neg hc]; simp
  · have hi : i < n.kids.length := by assumption
    have hn : atI n.kids i ∉ n.kids.take i.toNat := by assumption
    have ek : n.kids.take (i + 1).toNat = n.kids.take i.toNat ++ [atI n.kids i] := take_next h0 hi
    refine Rnd.norm (i + 1) (Le.cut 2 rfl ⟨rfl, rfl, rfl, (by rw [ek, List.map_append, List.map_append]; rfl), rfl, rfl, rfl, trivial⟩ rfl rfl (Nat.zero_le _)) ⟨by omega, by omega, ?_⟩ (by omega)
    rw [ek, ← h2, drop_next h0 hi]
    simp only [kidsGo]
    rw [dec_neg hn]
    simp [*, dec_T]
  · refine RQ.fin rfl rfl (congrArg bav ?_)
    unfold kidsB
    rw [← h2, drop_end (by assumption)]; simp [kidsGo]
end Go.Proofs.YtjjdabihnmilgaaGreat.A
namespace Go.Proofs.YtjjdabihnmilgaaGreat.A
set_option linter.unusedVariables false
set_option linter.unusedSimpArgs false
set_option maxRecDepth 100000
set_option maxHeartbeats 4000000
noncomputable def attrsGo (seen : List (ByteArray × ByteArray)) : List Attr → Bool
  | [] => true
  | a :: r => if namedB a.name = false then false else if 4096 < a.value.size then false else if dec (key a.name ∈ seen) = true then false else attrsGo (seen ++ [key a.name]) r
noncomputable def attrsB (l : List Attr) : Bool := decide (l.length ≤ 64) && attrsGo [] l
def akf (p : ByteArray × ByteArray) : List IV := [.str p.1, .str p.2]
theorem attributes_c (l : List Attr) (hl : l.length ≤ 1000000000) : PureC Tryz.prog 192 [.imm (.sl (l.map Attr.iv))] (bav (attrsB l)) := by
  refine PureC.mk tabs Tryz.func192 43 [.tmp 2] rfl rfl rfl rfl rfl ?_; intro w0 X
  (repeat' (first | ((with_reducible show AL _ _ _ _ _); first | (refine AL.step tabs rfl ?_; try dsimp only [len, List.nil_append, List.cons_append]) | refine AL.makeMap rfl rfl rfl (fun g hg => ?_) | refine AL.nil ?_ | (refine AL.gsplitE rfl rfl rfl (fun hc => ?_) (fun hc => ?_) <;> (fail_if_success (exact absurd hc (by decide))) <;> (try simp only [hsx] at hc) <;> (try first | (exfalso; omega) | contradiction | (exfalso; simp [dec_eq] at hc; done))) | (refine AL.op rfl (OpOK.ari64 rfl rfl rfl rfl rfl (by omega) (by omega)) ?_) | (refine AL.op rfl (OpOK.index_map tabs rfl rfl rfl rfl rfl rfl rfl (fun _ => rfl) (by decide) (by omega) (by omega)) ?_)) | ((with_reducible show DQ _ _ _ _ _ _); first | refine DQ.stepc (LS.val tabs rfl rfl rfl) rfl rfl rfl rfl rfl ?_ | refine DQ.stepc (LS.skip rfl rfl) rfl rfl rfl rfl rfl ?_ | refine DQ.nilM (by kernel_rfl) ?_ | refine DQ.stepc (LS.ari64 rfl rfl rfl rfl rfl rfl (by omega) (by omega)) rfl rfl rfl rfl rfl ?_ | refine DQ.stepc (LS.index_map tabs rfl rfl rfl rfl rfl rfl rfl rfl (fun _ => rfl) (by decide) (by omega) (by omega)) rfl rfl rfl rfl rfl ?_ | (refine DQ.gsplitE rfl rfl rfl (fun hc => ?_) (fun hc => ?_) <;> (fail_if_success (exact absurd hc (by decide))) <;> (try simp only [hsx] at hc) <;> (try first | (exfalso; omega) | contradiction | (exfalso; simp [dec_eq] at hc; done)))) | refine AW.seq ?_ | refine AW.region ?_ | refine Then.norm ?_ | refine AW.skip ?_ | refine AW.block ?_ | refine InB.norm ?_ | refine AW.condT rfl ?_ | refine AW.condF rfl ?_ | (refine AW.cond rfl (fun hc => ?_) (fun hc => ?_) <;> (try simp only [hsx] at hc) <;> (try first | (exfalso; omega) | contradiction | (exfalso; simp [dec_eq] at hc; done))) | refine AW.ret ?_ | refine AW.exit ?_ | refine Then.ret ?_ | refine Then.exit ?_ | refine InB.ret ?_ | refine InB.here ?_ | refine InB.off rfl ?_ | refine Rnd.ret ?_ | refine Rnd.exit ?_ | refine AW.drawW mixed (by kernel_rfl) ?_))
  · refine RQ.fin rfl rfl (congrArg bav ?_)
    unfold attrsB
    rw [show decide (l.length ≤ 64) = false by simp; omega]; rfl
  refine AW.loop (α := Int) (fun i => ⟨[(3, .mp g (((l.take i.toNat).map fun a => key a.name).map akf) (((l.take i.toNat).map fun a => key a.name).map fun _ => [.int .i64 1])), (11, .imm (.sl (l.map Attr.iv))), (12, iav (l.map Attr.iv).length), (13, iav i)], []⟩) (fun i => 0 ≤ i ∧ i ≤ l.length ∧ attrsGo ((l.take i.toNat).map fun a => key a.name) (l.drop i.toNat) = attrsGo [] l) (fun i => (l.length - i).toNat) 0 (Le.cut 0 rfl ⟨rfl, rfl, rfl, rfl, trivial⟩ rfl rfl (Nat.zero_le _)) ⟨by omega, by omega, rfl⟩ ?_
  intro i ⟨h0, h1, h2⟩
  (repeat' (first | ((with_reducible show AL _ _ _ _ _); first | (refine AL.step tabs rfl ?_; try dsimp only [len, List.nil_append, List.cons_append]) | refine AL.op rfl (OpOK.call rfl rfl rfl rfl (keyOf_c (atI l i).name) rfl) ?_ | refine AL.op rfl (OpOK.call rfl rfl rfl rfl (named_c (atI l i).name) rfl) ?_ | refine AL.op rfl (OpOK.look1 (kf := akf) key225 Tryz.underlying223 zero3 rfl rfl rfl rfl rfl (q := key (atI l i).name) rfl) ?_ | refine AL.nil ?_ | (refine AL.gsplitE rfl rfl rfl (fun hc => ?_) (fun hc => ?_) <;> (fail_if_success (exact absurd hc (by decide))) <;> (try simp only [hsx] at hc) <;> (try first | (exfalso; omega) | contradiction | (exfalso; simp [dec_eq] at hc; done))) | (refine AL.op rfl (OpOK.ari64 rfl rfl rfl rfl rfl (by omega) (by omega)) ?_) | (refine AL.op rfl (OpOK.index_map tabs rfl rfl rfl rfl rfl rfl rfl (fun _ => rfl) (by decide) (by omega) (by omega)) ?_)) | ((with_reducible show DQ _ _ _ _ _ _); first | refine DQ.stepc (LS.val tabs rfl rfl rfl) rfl rfl rfl rfl rfl ?_ | refine DQ.stepc (LS.skip rfl rfl) rfl rfl rfl rfl rfl ?_ | refine DQ.nilM (by kernel_rfl) ?_ | refine DQ.stepc (LS.ari64 rfl rfl rfl rfl rfl rfl (by omega) (by omega)) rfl rfl rfl rfl rfl ?_ | refine DQ.stepc (LS.index_map tabs rfl rfl rfl rfl rfl rfl rfl rfl (fun _ => rfl) (by decide) (by omega) (by omega)) rfl rfl rfl rfl rfl ?_ | (refine DQ.gsplitE rfl rfl rfl (fun hc => ?_) (fun hc => ?_) <;> (fail_if_success (exact absurd hc (by decide))) <;> (try simp only [hsx] at hc) <;> (try first | (exfalso; omega) | contradiction | (exfalso; simp [dec_eq] at hc; done)))) | refine AW.seq ?_ | refine AW.region ?_ | refine Then.norm ?_ | refine AW.skip ?_ | refine AW.block ?_ | refine InB.norm ?_ | refine AW.condT rfl ?_ | refine AW.condF rfl ?_ | (refine AW.cond rfl (fun hc => ?_) (fun hc => ?_) <;> (try simp only [hsx] at hc) <;> (try first | (exfalso; omega) | contradiction | (exfalso; simp [dec_eq] at hc; done))) | refine AW.ret ?_ | refine AW.exit ?_ | refine Then.ret ?_ | refine Then.exit ?_ | refine InB.ret ?_ | refine InB.here ?_ | refine InB.off rfl ?_ | refine Rnd.ret ?_ | refine Rnd.exit ?_ ))
  · refine RQ.fin rfl rfl (congrArg bav ?_)
    unfold attrsB
    rw [← h2, drop_next h0 (by assumption)]; simp [attrsGo, hc]
  · have e : 4096 < (atI l i).value.size := by omega
    refine RQ.fin rfl rfl (congrArg bav ?_)
    unfold attrsB
    rw [← h2, drop_next h0 (by assumption)]; simp [attrsGo, e]
  · refine RQ.fin rfl rfl (congrArg bav ?_)
    unfold attrsB
    rw [← h2, drop_next h0 (by assumption), attrsGo, dec_pos hc]; simp
  · refine AW.orders mixed ?_
    have e : ¬ 4096 < (atI l i).value.size := by omega
    have hi : i < l.length := by assumption
    have ek : ((l.take (i + 1).toNat).map fun a => key a.name) = ((l.take i.toNat).map fun a => key a.name) ++ [key (atI l i).name] := by rw [take_next h0 hi, List.map_append]; rfl
    repeat' (first
      | refine AS.step tabs rfl rfl ?_
      | refine AS.op rfl rfl (OpOK.look0 (kf := akf) key225 Tryz.underlying223 zero3 rfl rfl rfl rfl (q := key (atI l i).name) rfl hc) ?_
      | refine AS.op rfl rfl (OpOK.look2 (kf := akf) (xs := (l.take i.toNat).map fun a => key a.name) (q := key (atI l i).name) key225 Tryz.underlying223 zero3 rfl rfl rfl rfl rfl (by simp) hc) ?_
      | refine AS.op rfl rfl (OpOK.ari64 rfl rfl rfl rfl rfl (by omega) (by omega)) ?_
      | refine AS.op rfl rfl (OpOK.ent0 (kf := akf) key225 Tryz.underlying223 zero3 rfl rfl rfl hg rfl rfl (q := key (atI l i).name) rfl hc (by repeat' (first | exact trivial | refine ⟨rfl, ?_⟩)) rfl) ?_
      | refine AS.op rfl rfl (OpOK.ent1 rfl rfl hg rfl (by simp) rfl (v := [.int .i64 (0 + 1)]) rfl (by repeat' (first | exact trivial | refine ⟨rfl, ?_⟩)) rfl) ?_
      | refine AD.nil (by decide +kernel) ?_
      | refine AD.two (i := 0) (j := 1) (by decide +kernel) ?_ ?_
      | refine AD.one (i := 0) (by decide +kernel) ?_
      | refine AD.one (i := 1) (by decide +kernel) ?_
      | refine AD.two (i := 2) (j := 4) (by decide +kernel) ?_ ?_
      | refine AD.two (i := 2) (j := 5) (by decide +kernel) ?_ ?_
      | refine AD.two (i := 3) (j := 4) (by decide +kernel) ?_ ?_
      | refine AD.two (i := 3) (j := 5) (by decide +kernel) ?_ ?_
      | refine AD.one (i := 2) (by decide +kernel) ?_
      | refine AD.one (i := 3) (by decide +kernel) ?_
      | refine AD.one (i := 4) (by decide +kernel) ?_
      | refine AD.one (i := 5) (by decide +kernel) ?_
      | refine AD.one (i := 6) (by decide +kernel) ?_)
    all_goals
      (repeat' (first | ((with_reducible show AL _ _ _ _ _); first | (refine AL.step tabs rfl ?_; try dsimp only [len, List.nil_append, List.cons_append]) | refine AL.nil ?_ | (refine AL.gsplitE rfl rfl rfl (fun hc => ?_) (fun hc => ?_) <;> (fail_if_success (exact absurd hc (by decide))) <;> (try simp only [hsx] at hc) <;> (try first | (exfalso; omega) | contradiction | (exfalso; simp [dec_eq] at hc; done))) | (refine AL.op rfl (OpOK.ari64 rfl rfl rfl rfl rfl (by omega) (by omega)) ?_) | (refine AL.op rfl (OpOK.index_map tabs rfl rfl rfl rfl rfl rfl rfl (fun _ => rfl) (by decide) (by omega) (by omega)) ?_)) | ((with_reducible show DQ _ _ _ _ _ _); first | refine DQ.stepc (LS.val tabs rfl rfl rfl) rfl rfl rfl rfl rfl ?_ | refine DQ.stepc (LS.skip rfl rfl) rfl rfl rfl rfl rfl ?_ | refine DQ.nilM (by kernel_rfl) ?_ | refine DQ.stepc (LS.ari64 rfl rfl rfl rfl rfl rfl (by omega) (by omega)) rfl rfl rfl rfl rfl ?_ | refine DQ.stepc (LS.index_map tabs rfl rfl rfl rfl rfl rfl rfl rfl (fun _ => rfl) (by decide) (by omega) (by omega)) rfl rfl rfl rfl rfl ?_ | (refine DQ.gsplitE rfl rfl rfl (fun hc => ?_) (fun hc => ?_) <;> (fail_if_success (exact absurd hc (by decide))) <;> (try simp only [hsx] at hc) <;> (try first | (exfalso; omega) | contradiction | (exfalso; simp [dec_eq] at hc; done)))) | refine AW.seq ?_ | refine AW.region ?_ | refine Then.norm ?_ | refine AW.skip ?_ | refine AW.block ?_ | refine InB.norm ?_ | refine AW.condT rfl ?_ | refine AW.condF rfl ?_ | (refine AW.cond rfl (fun hc => ?_) (fun hc => ?_) <;> (try simp only [hsx] at hc) <;> (try first | (exfalso; omega) | contradiction | (exfalso; simp [dec_eq] at hc; done))) | refine AW.ret ?_ | refine AW.exit ?_ | refine Then.ret ?_ | refine Then.exit ?_ | refine InB.ret ?_ | refine InB.here ?_ | refine InB.off rfl ?_ | refine Rnd.ret ?_ | refine Rnd.exit ?_ | refine AW.drawW mixed (by kernel_rfl) ?_))
      refine Rnd.norm (i + 1) (Le.cut 0 rfl ⟨(by rw [ek, List.map_append, List.map_append]; rfl), rfl, rfl, rfl, trivial⟩ rfl rfl (Nat.zero_le _)) ⟨by omega, by omega, ?_⟩ (by omega)
      rw [ek, ← h2, drop_next h0 hi]
      simp only [attrsGo]
      rw [dec_neg hc]
      simp [*]
  · refine RQ.fin rfl rfl (congrArg bav ?_)
    unfold attrsB
    rw [← h2, drop_end (by assumption), show decide (l.length ≤ 64) = true by simp; omega]; simp [attrsGo]
end Go.Proofs.YtjjdabihnmilgaaGreat.A
namespace Go.Proofs.YtjjdabihnmilgaaGreat.A
set_option linter.unusedVariables false
set_option linter.unusedSimpArgs false
set_option maxRecDepth 100000
set_option maxHeartbeats 4000000
def m11 (n : Node) : Prop := (traitsOf n.kind).known = true ∧ namingB n (traitsOf n.kind) = true ∧ attrsB n.attrs = true
def m27 (n : Node) : Prop := shortB [n.pub, n.sys] = true ∧ (n.kind = 10 ∨ n.pub = es ∧ n.sys = es)
def m50 (n : Node) : Prop := ¬ 16384 < (n.data.length : Int) ∧ ((traitsOf n.kind).data = true ∨ ¬ 0 < (n.data.length : Int)) ∧ ((traitsOf n.kind).kids = true ∨ ¬ 0 < (n.kids.length : Int))
def m77 (n : Node) : Prop := (n.kind = 1 ∨ ¬ 0 < (n.attrs.length : Int) ∧ n.shadow = 0) ∧ (n.kind = 9 ∨ n.html = false)
def m100 (n : Node) : Prop := (traitsOf n.kind).hung = true ∨ n.parent = 0
def m200 (n : Node) : Prop := (n.kind = 12 ∧ (n.mode = 1 ∨ n.mode = 2)) ∨ (n.kind ≠ 12 ∧ n.mode = 0 ∧ n.manual = false ∧ n.host = 0)
def madeP (n : Node) : Prop := m11 n ∧ m27 n ∧ m50 n ∧ m77 n ∧ m100 n ∧ m200 n
theorem made_c (n : Node) (hd : n.data.length ≤ 1000000000) (ha : n.attrs.length ≤ 1000000000) (hk : n.kids.length ≤ 1000000000) : PureC Tryz.prog 137 [n.av] (bav (dec (madeP n))) := by
  refine PureC.mk tabs Tryz.func137 133 [.tmp 2] rfl rfl rfl rfl rfl ?_; intro w0 X
  (repeat' (first | ((with_reducible show AL _ _ _ _ _); first | (refine AL.step tabs rfl ?_; try dsimp only [len, List.nil_append, List.cons_append]) | refine AL.op rfl (OpOK.call rfl rfl rfl rfl (traits_c n.kind) rfl) ?_ | refine AL.op rfl (OpOK.call rfl rfl rfl rfl (naming_c n (traitsOf n.kind)) rfl) ?_ | refine AL.op rfl (OpOK.call rfl rfl rfl rfl (attributes_c n.attrs ha) rfl) ?_ | refine AL.op rfl (OpOK.callfz rfl rfl rfl rfl (short_c [n.pub, n.sys] (by simp)) rfl rfl) ?_ | refine AL.nil ?_ | (refine AL.gsplitE rfl rfl rfl (fun hc => ?_) (fun hc => ?_) <;> (fail_if_success (exact absurd hc (by decide))) <;> (try simp only [hsx] at hc) <;> (try first | (exfalso; omega) | contradiction | (exfalso; simp [dec_eq] at hc; done)))) | refine AW.midc (t := 11) ⟨[(1, .ptr 0 1 0 0), (3, .ptr 1 1 0 0), (4, bav (dec (n.kind = 1))), (11, bav (dec (¬ m11 n)))], [⟨81, 16, [n.iv.map .imm]⟩, ⟨199, 6, [[bav (traitsOf n.kind).known, bav (traitsOf n.kind).data, bav (traitsOf n.kind).kids, bav (traitsOf n.kind).hung, bav (traitsOf n.kind).full, bav (traitsOf n.kind).locl]]⟩]⟩ ?_ ?_ | refine AW.midc (t := 27) ⟨[(1, .ptr 0 1 0 0), (3, .ptr 1 1 0 0), (4, bav (dec (n.kind = 1))), (27, bav (dec (¬ m27 n)))], [⟨81, 16, [n.iv.map .imm]⟩, ⟨199, 6, [[bav (traitsOf n.kind).known, bav (traitsOf n.kind).data, bav (traitsOf n.kind).kids, bav (traitsOf n.kind).hung, bav (traitsOf n.kind).full, bav (traitsOf n.kind).locl]]⟩]⟩ ?_ ?_ | refine AW.midc (t := 50) ⟨[(1, .ptr 0 1 0 0), (3, .ptr 1 1 0 0), (4, bav (dec (n.kind = 1))), (50, bav (dec (¬ m50 n)))], [⟨81, 16, [n.iv.map .imm]⟩, ⟨199, 6, [[bav (traitsOf n.kind).known, bav (traitsOf n.kind).data, bav (traitsOf n.kind).kids, bav (traitsOf n.kind).hung, bav (traitsOf n.kind).full, bav (traitsOf n.kind).locl]]⟩]⟩ ?_ ?_ | refine AW.midc (t := 77) ⟨[(1, .ptr 0 1 0 0), (3, .ptr 1 1 0 0), (4, bav (dec (n.kind = 1))), (77, bav (dec (¬ m77 n)))], [⟨81, 16, [n.iv.map .imm]⟩, ⟨199, 6, [[bav (traitsOf n.kind).known, bav (traitsOf n.kind).data, bav (traitsOf n.kind).kids, bav (traitsOf n.kind).hung, bav (traitsOf n.kind).full, bav (traitsOf n.kind).locl]]⟩]⟩ ?_ ?_ | refine AW.midc (t := 100) ⟨[(1, .ptr 0 1 0 0), (3, .ptr 1 1 0 0), (4, bav (dec (n.kind = 1))), (100, bav (dec (¬ m100 n)))], [⟨81, 16, [n.iv.map .imm]⟩, ⟨199, 6, [[bav (traitsOf n.kind).known, bav (traitsOf n.kind).data, bav (traitsOf n.kind).kids, bav (traitsOf n.kind).hung, bav (traitsOf n.kind).full, bav (traitsOf n.kind).locl]]⟩]⟩ ?_ ?_ | refine AW.seq ?_ | refine AW.region ?_ | refine Then.norm ?_ | refine AW.skip ?_ | refine AW.block ?_ | refine InB.norm ?_ | refine AW.condT rfl ?_ | refine AW.condF rfl ?_ | (refine AW.cond rfl (fun hc => ?_) (fun hc => ?_) <;> (try simp only [hsx] at hc) <;> (try first | (exfalso; omega) | contradiction | (exfalso; simp [dec_eq] at hc; done))) | refine AW.ret ?_ | refine AW.exit ?_ | refine Then.ret ?_ | refine Then.exit ?_ | refine InB.ret ?_ | refine InB.here ?_ | refine InB.off rfl ?_))
  all_goals first
    | (refine RQ.fin rfl rfl (congrArg bav ?_); rw [Bool.eq_iff_iff]; simp only [madeP, m200, dec_true, Bool.not_eq_true', dec_false]; grind)
    | (refine Mid.of (Le.cut 2 rfl ⟨rfl, rfl, rfl, get_bool rfl ?_, trivial⟩ rfl rfl (Nat.zero_le _)); rw [Bool.eq_iff_iff]; simp only [m11, m27, m50, m77, m100, es, dec_true, Bool.not_eq_true', dec_false]; grind)
end Go.Proofs.YtjjdabihnmilgaaGreat.A
