/- The data of the forest as plain Lean structures, and how they read as values. -/
import Derived.Test.YteijifoobaoclaaGreatAwY
namespace Go.Proofs.YteijifoobaoclaaGreat.A
set_option linter.unusedVariables false
structure Name where
  sp : ByteArray
  pf : ByteArray
  lc : ByteArray
structure Attr where
  name : Name
  value : ByteArray
structure Node where
  kind : Int
  name : Name
  pub : ByteArray
  sys : ByteArray
  data : List Int
  attrs : List Attr
  parent : Int
  kids : List Int
  doc : Int
  host : Int
  shadow : Int
  mode : Int
  manual : Bool
  html : Bool
def es : ByteArray := ⟨#[]⟩
def Name.iv (n : Name) : List IV := [.str n.sp, .str n.pf, .str n.lc]
def Attr.iv (a : Attr) : List IV := [.str a.name.sp, .str a.name.pf, .str a.name.lc, .str a.value]
def u16 (x : Int) : List IV := [.int .u16 x]
def i64 (x : Int) : List IV := [.int .i64 x]
def Node.iv (n : Node) : List IV := [.int .u8 n.kind, .str n.name.sp, .str n.name.pf, .str n.name.lc, .str n.pub, .str n.sys, .sl (n.data.map u16), .sl (n.attrs.map Attr.iv), .int .i64 n.parent, .sl (n.kids.map i64), .int .i64 n.doc, .int .i64 n.host, .int .i64 n.shadow, .int .u8 n.mode, .bool n.manual, .bool n.html]
def Name.av (n : Name) : AV := .agg (n.iv.map .imm)
def Attr.av (a : Attr) : AV := .agg (a.iv.map .imm)
def Node.av (n : Node) : AV := .agg (n.iv.map .imm)
def fav (f : List Node) : AV := .agg [.imm (.sl (f.map Node.iv))]
def iav (n : Int) : AV := .imm (.int .i64 n)
def kav (n : Int) : AV := .imm (.int .u8 n)
def bav (b : Bool) : AV := .imm (.bool b)
def sav (s : ByteArray) : AV := .imm (.str s)
def n0 : Node := ⟨0, ⟨es, es, es⟩, es, es, [], [], 0, [], 0, 0, 0, 0, false, false⟩
def a0 : Attr := ⟨⟨es, es, es⟩, es⟩
instance : Inhabited Node := ⟨n0⟩
instance : Inhabited Attr := ⟨a0⟩
end Go.Proofs.YteijifoobaoclaaGreat.A
