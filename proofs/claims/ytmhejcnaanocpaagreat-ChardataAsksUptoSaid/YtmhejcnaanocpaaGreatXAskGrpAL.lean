/- The abstract walk: this seat's types, out of the translation's own print (by program). -/
import Derived.Test.YtmhejcnaanocpaaGreatXAskGrpAE
import Derived.Test.YtmhejcnaanocpaaGreatProg
import Derived.Test.YtmhejcnaanocpaaGreatXAskGrpAG
import Derived.Test.YtmhejcnaanocpaaGreatXAskGrpAH
import Derived.Test.YtmhejcnaanocpaaGreatXAskGrpAJ
namespace Go.Proofs.YtmhejcnaanocpaaGreat.A
set_option linter.unusedVariables false
abbrev zv : Value := .string ⟨#[]⟩
theorem tkm {t : TypeId} {i : TI} {d : TypeDesc} (u : Tryz.prog.underlying t = some d) (z : Value) (h1 : (Tryz.prog.info? t).map (·.size) = some i.sz := by kernel_rfl) (h2 : (Tryz.prog.info? t).map (·.bytes) = some i.bytes := by kernel_rfl) (h3 : kdOf d = i.kd := by kernel_rfl) (h4 : fldsOf Tryz.prog d = some i.flds := by kernel_rfl) (h5 : (Tryz.prog.info? t).bind (·.zero) = some z := by kernel_rfl) (h6 : constAVs z.cells.toList = some i.zero := by kernel_rfl) (h7 : i.zero.length = i.sz := by rfl) : TOk Tryz.prog t i := ⟨h1, h2, ⟨d, u, h3, h4⟩, ⟨z, h5, h6⟩, h7⟩
def ti3 : TI := ⟨1, .int .i64, [.imm (.int .i64 0)], [], 8⟩
theorem tk3 : TOk Tryz.prog 3 ti3 := tkm Tryz.underlying3 (.int .i64 0)
def ti44 : TI := ⟨16, .agg, [.imm (.int .u8 0), .imm (.str ⟨#[]⟩), .imm (.str ⟨#[]⟩), .imm (.str ⟨#[]⟩), .imm (.str ⟨#[]⟩), .imm (.str ⟨#[]⟩), .nils, .nils, .imm (.int .i64 0), .nils, .imm (.int .i64 0), .imm (.int .i64 0), .imm (.int .i64 0), .imm (.int .u8 0), .imm (.bool false), .imm (.bool false)], [(0, 1, false), (1, 3, true), (4, 1, false), (5, 1, false), (6, 1, false), (7, 1, false), (8, 1, false), (9, 1, false), (10, 1, false), (11, 1, false), (12, 1, false), (13, 1, false), (14, 1, false), (15, 1, false)], 200⟩
theorem tk44 : TOk Tryz.prog 44 ti44 := tkm Tryz.underlying44 (.agg #[.int .u8 0, zv, zv, zv, zv, zv, .slice none 0 0, .slice none 0 0, .int .i64 0, .slice none 0 0, .int .i64 0, .int .i64 0, .int .i64 0, .int .u8 0, .bool false, .bool false])
def ti58 : TI := ⟨36, .agg, [.imm (.int .u8 0), .imm (.int .i64 0), .imm (.int .i64 0), .imm (.int .i64 0), .imm (.int .i64 0), .imm (.int .i64 0), .imm (.int .i64 0), .imm (.int .i64 0), .nils, .imm (.str ⟨#[]⟩), .imm (.str ⟨#[]⟩), .imm (.str ⟨#[]⟩), .imm (.str ⟨#[]⟩), .imm (.str ⟨#[]⟩), .imm (.bool false), .imm (.bool false), .imm (.int .u8 0), .imm (.str ⟨#[]⟩), .imm (.str ⟨#[]⟩), .imm (.str ⟨#[]⟩), .imm (.str ⟨#[]⟩), .imm (.str ⟨#[]⟩), .nils, .nils, .imm (.int .i64 0), .nils, .imm (.int .i64 0), .imm (.int .i64 0), .imm (.int .i64 0), .imm (.int .u8 0), .imm (.bool false), .imm (.bool false), .nils, .nils, .imm (.int .i64 0), .imm (.int .i64 0)], [(0, 1, false), (1, 1, false), (2, 1, false), (3, 1, false), (4, 1, false), (5, 1, false), (6, 1, false), (7, 1, false), (8, 1, false), (9, 3, true), (12, 1, false), (13, 1, false), (14, 1, false), (15, 1, false), (16, 16, true), (32, 1, false), (33, 1, false), (34, 1, false), (35, 1, false)], 440⟩
theorem tk58 : TOk Tryz.prog 58 ti58 := tkm Tryz.underlying58 (.agg #[.int .u8 0, .int .i64 0, .int .i64 0, .int .i64 0, .int .i64 0, .int .i64 0, .int .i64 0, .int .i64 0, .slice none 0 0, zv, zv, zv, zv, zv, .bool false, .bool false, .int .u8 0, zv, zv, zv, zv, zv, .slice none 0 0, .slice none 0 0, .int .i64 0, .slice none 0 0, .int .i64 0, .int .i64 0, .int .i64 0, .int .u8 0, .bool false, .bool false, .slice none 0 0, .slice none 0 0, .int .i64 0, .int .i64 0])
def ti24 : TI := ⟨1, .agg, [.nils], [(0, 1, false)], 24⟩
theorem tk24 : TOk Tryz.prog 24 ti24 := tkm Tryz.underlying24 (.agg #[.slice none 0 0])
def ti4 : TI := ⟨1, .bool, [.imm (.bool false)], [], 1⟩
theorem tk4 : TOk Tryz.prog 4 ti4 := tkm Tryz.underlying4 (.bool false)
def ti37 : TI := ⟨1, .int .u8, [.imm (.int .u8 0)], [], 1⟩
theorem tk37 : TOk Tryz.prog 37 ti37 := tkm Tryz.underlying37 (.int .u8 0)
def ti41 : TI := ⟨1, .sl 3, [.nils], [], 24⟩
theorem tk41 : TOk Tryz.prog 41 ti41 := tkm Tryz.underlying41 (.slice none 0 0)
def ti22 : TI := ⟨1, .sl 44, [.nils], [], 24⟩
theorem tk22 : TOk Tryz.prog 22 ti22 := tkm Tryz.underlying22 (.slice none 0 0)
def ti9 : TI := ⟨1, .str, [.imm (.str ⟨#[]⟩)], [], 16⟩
theorem tk9 : TOk Tryz.prog 9 ti9 := tkm Tryz.underlying9 (zv)
def ti39 : TI := ⟨3, .agg, [.imm (.str ⟨#[]⟩), .imm (.str ⟨#[]⟩), .imm (.str ⟨#[]⟩)], [(0, 1, false), (1, 1, false), (2, 1, false)], 48⟩
theorem tk39 : TOk Tryz.prog 39 ti39 := tkm Tryz.underlying39 (.agg #[zv, zv, zv])
def ti36 : TI := ⟨1, .sl 55, [.nils], [], 24⟩
theorem tk36 : TOk Tryz.prog 36 ti36 := tkm Tryz.underlying36 (.slice none 0 0)
def ti40 : TI := ⟨1, .sl 104, [.nils], [], 24⟩
theorem tk40 : TOk Tryz.prog 40 ti40 := tkm Tryz.underlying40 (.slice none 0 0)
def ti28 : TI := ⟨1, .int .i64, [.imm (.int .i64 0)], [], 8⟩
theorem tk28 : TOk Tryz.prog 28 ti28 := tkm Tryz.underlying28 (.int .i64 0)
def ti56 : TI := ⟨1, .int .u8, [.imm (.int .u8 0)], [], 1⟩
theorem tk56 : TOk Tryz.prog 56 ti56 := tkm Tryz.underlying56 (.int .u8 0)
def ti104 : TI := ⟨4, .agg, [.imm (.str ⟨#[]⟩), .imm (.str ⟨#[]⟩), .imm (.str ⟨#[]⟩), .imm (.str ⟨#[]⟩)], [(0, 3, true), (3, 1, false)], 64⟩
theorem tk104 : TOk Tryz.prog 104 ti104 := tkm Tryz.underlying104 (.agg #[zv, zv, zv, zv])
def ti146 : TI := ⟨6, .agg, [.imm (.bool false), .imm (.bool false), .imm (.bool false), .imm (.bool false), .imm (.bool false), .imm (.bool false)], [(0, 1, false), (1, 1, false), (2, 1, false), (3, 1, false), (4, 1, false), (5, 1, false)], 6⟩
theorem tk146 : TOk Tryz.prog 146 ti146 := tkm Tryz.underlying146 (.agg #[.bool false, .bool false, .bool false, .bool false, .bool false, .bool false])
def ti42 : TI := ⟨1, .int .u8, [.imm (.int .u8 0)], [], 1⟩
theorem tk42 : TOk Tryz.prog 42 ti42 := tkm Tryz.underlying42 (.int .u8 0)
def ti112 : TI := ⟨3, .agg, [.nils, .nils, .imm (.int .i64 0)], [(0, 1, true), (1, 1, false), (2, 1, false)], 56⟩
theorem tk112 : TOk Tryz.prog 112 ti112 := tkm Tryz.underlying112 (.agg #[.slice none 0 0, .slice none 0 0, .int .i64 0])
def ti27 : TI := ⟨1, .sl 58, [.nils], [], 24⟩
theorem tk27 : TOk Tryz.prog 27 ti27 := tkm Tryz.underlying27 (.slice none 0 0)
def ti126 : TI := ⟨4, .agg, [.imm .nilf, .imm .nilf, .imm (.bool false), .imm .nilf], [(0, 1, false), (1, 1, false), (2, 1, false), (3, 1, false)], 32⟩
theorem tk126 : TOk Tryz.prog 126 ti126 := tkm Tryz.underlying126 (.agg #[.nilFunc, .nilFunc, .bool false, .nilFunc])
def ti55 : TI := ⟨1, .int .u16, [.imm (.int .u16 0)], [], 2⟩
theorem tk55 : TOk Tryz.prog 55 ti55 := tkm Tryz.underlying55 (.int .u16 0)
def ti177 : TI := ⟨2, .agg, [.imm (.str ⟨#[]⟩), .imm (.str ⟨#[]⟩)], [(0, 1, false), (1, 1, false)], 32⟩
theorem tk177 : TOk Tryz.prog 177 ti177 := tkm Tryz.underlying177 (.agg #[zv, zv])
def ti73 : TI := ⟨1, .other, [.imm .nilp], [], 8⟩
theorem tk73 : TOk Tryz.prog 73 ti73 := tkm Tryz.underlying73 (.pointer none)
def ti141 : TI := ⟨9, .agg, [.imm (.int .i64 0), .imm (.int .i64 0), .imm (.int .i64 0), .imm (.int .i64 0), .imm (.int .i64 0), .imm (.int .i64 0), .imm (.int .i64 0), .imm (.int .i64 0), .imm (.int .i64 0)], [], 72⟩
theorem tk141 : TOk Tryz.prog 141 ti141 := tkm Tryz.underlying141 (.agg #[.int .i64 0, .int .i64 0, .int .i64 0, .int .i64 0, .int .i64 0, .int .i64 0, .int .i64 0, .int .i64 0, .int .i64 0])
def ti167 : TI := ⟨13, .agg, [.imm (.int .u8 0), .imm (.str ⟨#[]⟩), .imm (.str ⟨#[]⟩), .imm (.str ⟨#[]⟩), .imm (.str ⟨#[]⟩), .imm (.str ⟨#[]⟩), .imm (.int .i64 0), .imm (.int .i64 0), .imm (.int .i64 0), .imm (.int .i64 0), .imm (.int .u8 0), .imm (.bool false), .imm (.bool false)], [(0, 1, false), (1, 3, true), (4, 1, false), (5, 1, false), (6, 1, false), (7, 1, false), (8, 1, false), (9, 1, false), (10, 1, false), (11, 1, false), (12, 1, false)], 128⟩
theorem tk167 : TOk Tryz.prog 167 ti167 := tkm Tryz.underlying167 (.agg #[.int .u8 0, zv, zv, zv, zv, zv, .int .i64 0, .int .i64 0, .int .i64 0, .int .i64 0, .int .u8 0, .bool false, .bool false])
def ti179 : TI := ⟨1, .sl 9, [.nils], [], 24⟩
theorem tk179 : TOk Tryz.prog 179 ti179 := tkm Tryz.underlying179 (.slice none 0 0)
def ti35 : TI := ⟨1, .sl 55, [.nils], [], 24⟩
theorem tk35 : TOk Tryz.prog 35 ti35 := tkm Tryz.underlying35 (.slice none 0 0)
def ti133 : TI := ⟨1, .sl 4, [.nils], [], 24⟩
theorem tk133 : TOk Tryz.prog 133 ti133 := tkm Tryz.underlying133 (.slice none 0 0)
def ti153 : TI := ⟨1, .other, [.imm .nilp], [], 8⟩
theorem tk153 : TOk Tryz.prog 153 ti153 := tkm Tryz.underlying153 (.pointer none)
def ti116 : TI := ⟨1, .other, [.imm .nilf], [], 8⟩
theorem tk116 : TOk Tryz.prog 116 ti116 := tkm Tryz.underlying116 (.nilFunc)
def ti123 : TI := ⟨1, .other, [.imm .nilf], [], 8⟩
theorem tk123 : TOk Tryz.prog 123 ti123 := tkm Tryz.underlying123 (.nilFunc)
def ti130 : TI := ⟨1, .other, [.imm .nilp], [], 8⟩
theorem tk130 : TOk Tryz.prog 130 ti130 := tkm Tryz.underlying130 (.pointer none)
def ti188 : TI := ⟨1, .other, [.imm .nilf], [], 8⟩
theorem tk188 : TOk Tryz.prog 188 ti188 := tkm Tryz.underlying188 (.nilFunc)
def ti159 : TI := ⟨1, .other, [.imm .nilf], [], 8⟩
theorem tk159 : TOk Tryz.prog 159 ti159 := tkm Tryz.underlying159 (.nilFunc)
def ti95 : TI := ⟨1, .other, [.imm .nilf], [], 8⟩
theorem tk95 : TOk Tryz.prog 95 ti95 := tkm Tryz.underlying95 (.nilFunc)
def ti87 : TI := ⟨3, .agg, [.nils, .nils, .imm (.int .i64 0)], [(0, 1, true), (1, 1, false), (2, 1, false)], 56⟩
theorem tk87 : TOk Tryz.prog 87 ti87 := tkm Tryz.underlying87 (.agg #[.slice none 0 0, .slice none 0 0, .int .i64 0])
def ti25 : TI := ⟨1, .int .u32, [.imm (.int .u32 0)], [], 4⟩
theorem tk25 : TOk Tryz.prog 25 ti25 := tkm Tryz.underlying25 (.int .u32 0)
def ti132 : TI := ⟨1, .int .u64, [.imm (.int .u64 0)], [], 8⟩
theorem tk132 : TOk Tryz.prog 132 ti132 := tkm Tryz.underlying132 (.int .u64 0)
def ti21 : TI := ⟨1, .int .i32, [.imm (.int .i32 0)], [], 4⟩
theorem tk21 : TOk Tryz.prog 21 ti21 := tkm Tryz.underlying21 (.int .i32 0)
def ti5 : TI := ⟨1, .int .u8, [.imm (.int .u8 0)], [], 1⟩
theorem tk5 : TOk Tryz.prog 5 ti5 := tkm Tryz.underlying5 (.int .u8 0)
def ti23 : TI := ⟨1, .agg, [.nils], [(0, 1, false)], 24⟩
theorem tk23 : TOk Tryz.prog 23 ti23 := tkm Tryz.underlying23 (.agg #[.slice none 0 0])
def ti38 : TI := ⟨3, .agg, [.imm (.str ⟨#[]⟩), .imm (.str ⟨#[]⟩), .imm (.str ⟨#[]⟩)], [(0, 1, false), (1, 1, false), (2, 1, false)], 48⟩
theorem tk38 : TOk Tryz.prog 38 ti38 := tkm Tryz.underlying38 (.agg #[zv, zv, zv])
def ti43 : TI := ⟨16, .agg, [.imm (.int .u8 0), .imm (.str ⟨#[]⟩), .imm (.str ⟨#[]⟩), .imm (.str ⟨#[]⟩), .imm (.str ⟨#[]⟩), .imm (.str ⟨#[]⟩), .nils, .nils, .imm (.int .i64 0), .nils, .imm (.int .i64 0), .imm (.int .i64 0), .imm (.int .i64 0), .imm (.int .u8 0), .imm (.bool false), .imm (.bool false)], [(0, 1, false), (1, 3, true), (4, 1, false), (5, 1, false), (6, 1, false), (7, 1, false), (8, 1, false), (9, 1, false), (10, 1, false), (11, 1, false), (12, 1, false), (13, 1, false), (14, 1, false), (15, 1, false)], 200⟩
theorem tk43 : TOk Tryz.prog 43 ti43 := tkm Tryz.underlying43 (.agg #[.int .u8 0, zv, zv, zv, zv, zv, .slice none 0 0, .slice none 0 0, .int .i64 0, .slice none 0 0, .int .i64 0, .int .i64 0, .int .i64 0, .int .u8 0, .bool false, .bool false])
def ti57 : TI := ⟨36, .agg, [.imm (.int .u8 0), .imm (.int .i64 0), .imm (.int .i64 0), .imm (.int .i64 0), .imm (.int .i64 0), .imm (.int .i64 0), .imm (.int .i64 0), .imm (.int .i64 0), .nils, .imm (.str ⟨#[]⟩), .imm (.str ⟨#[]⟩), .imm (.str ⟨#[]⟩), .imm (.str ⟨#[]⟩), .imm (.str ⟨#[]⟩), .imm (.bool false), .imm (.bool false), .imm (.int .u8 0), .imm (.str ⟨#[]⟩), .imm (.str ⟨#[]⟩), .imm (.str ⟨#[]⟩), .imm (.str ⟨#[]⟩), .imm (.str ⟨#[]⟩), .nils, .nils, .imm (.int .i64 0), .nils, .imm (.int .i64 0), .imm (.int .i64 0), .imm (.int .i64 0), .imm (.int .u8 0), .imm (.bool false), .imm (.bool false), .nils, .nils, .imm (.int .i64 0), .imm (.int .i64 0)], [(0, 1, false), (1, 1, false), (2, 1, false), (3, 1, false), (4, 1, false), (5, 1, false), (6, 1, false), (7, 1, false), (8, 1, false), (9, 3, true), (12, 1, false), (13, 1, false), (14, 1, false), (15, 1, false), (16, 16, true), (32, 1, false), (33, 1, false), (34, 1, false), (35, 1, false)], 440⟩
theorem tk57 : TOk Tryz.prog 57 ti57 := tkm Tryz.underlying57 (.agg #[.int .u8 0, .int .i64 0, .int .i64 0, .int .i64 0, .int .i64 0, .int .i64 0, .int .i64 0, .int .i64 0, .slice none 0 0, zv, zv, zv, zv, zv, .bool false, .bool false, .int .u8 0, zv, zv, zv, zv, zv, .slice none 0 0, .slice none 0 0, .int .i64 0, .slice none 0 0, .int .i64 0, .int .i64 0, .int .i64 0, .int .u8 0, .bool false, .bool false, .slice none 0 0, .slice none 0 0, .int .i64 0, .int .i64 0])
def ti86 : TI := ⟨3, .agg, [.nils, .nils, .imm (.int .i64 0)], [(0, 1, true), (1, 1, false), (2, 1, false)], 56⟩
theorem tk86 : TOk Tryz.prog 86 ti86 := tkm Tryz.underlying86 (.agg #[.slice none 0 0, .slice none 0 0, .int .i64 0])
def ti103 : TI := ⟨4, .agg, [.imm (.str ⟨#[]⟩), .imm (.str ⟨#[]⟩), .imm (.str ⟨#[]⟩), .imm (.str ⟨#[]⟩)], [(0, 3, true), (3, 1, false)], 64⟩
theorem tk103 : TOk Tryz.prog 103 ti103 := tkm Tryz.underlying103 (.agg #[zv, zv, zv, zv])
def ti125 : TI := ⟨4, .agg, [.imm .nilf, .imm .nilf, .imm (.bool false), .imm .nilf], [(0, 1, false), (1, 1, false), (2, 1, false), (3, 1, false)], 32⟩
theorem tk125 : TOk Tryz.prog 125 ti125 := tkm Tryz.underlying125 (.agg #[.nilFunc, .nilFunc, .bool false, .nilFunc])
def ti145 : TI := ⟨6, .agg, [.imm (.bool false), .imm (.bool false), .imm (.bool false), .imm (.bool false), .imm (.bool false), .imm (.bool false)], [(0, 1, false), (1, 1, false), (2, 1, false), (3, 1, false), (4, 1, false), (5, 1, false)], 6⟩
theorem tk145 : TOk Tryz.prog 145 ti145 := tkm Tryz.underlying145 (.agg #[.bool false, .bool false, .bool false, .bool false, .bool false, .bool false])
def ti166 : TI := ⟨13, .agg, [.imm (.int .u8 0), .imm (.str ⟨#[]⟩), .imm (.str ⟨#[]⟩), .imm (.str ⟨#[]⟩), .imm (.str ⟨#[]⟩), .imm (.str ⟨#[]⟩), .imm (.int .i64 0), .imm (.int .i64 0), .imm (.int .i64 0), .imm (.int .i64 0), .imm (.int .u8 0), .imm (.bool false), .imm (.bool false)], [(0, 1, false), (1, 3, true), (4, 1, false), (5, 1, false), (6, 1, false), (7, 1, false), (8, 1, false), (9, 1, false), (10, 1, false), (11, 1, false), (12, 1, false)], 128⟩
theorem tk166 : TOk Tryz.prog 166 ti166 := tkm Tryz.underlying166 (.agg #[.int .u8 0, zv, zv, zv, zv, zv, .int .i64 0, .int .i64 0, .int .i64 0, .int .i64 0, .int .u8 0, .bool false, .bool false])
def ti176 : TI := ⟨2, .agg, [.imm (.str ⟨#[]⟩), .imm (.str ⟨#[]⟩)], [(0, 1, false), (1, 1, false)], 32⟩
theorem tk176 : TOk Tryz.prog 176 ti176 := tkm Tryz.underlying176 (.agg #[zv, zv])
def ti107 : TI := ⟨1, .other, [.imm .nilf], [], 8⟩
theorem tk107 : TOk Tryz.prog 107 ti107 := tkm Tryz.underlying107 (.nilFunc)
def ti1 : TI := ⟨1, .other, [.imm .nilf], [], 8⟩
theorem tk1 : TOk Tryz.prog 1 ti1 := tkm Tryz.underlying1 (.nilFunc)
def ti2 : TI := ⟨1, .int .i64, [.imm (.int .i64 0)], [], 8⟩
theorem tk2 : TOk Tryz.prog 2 ti2 := tkm Tryz.underlying2 (.int .i64 0)
def ti26 : TI := ⟨1, .other, [.imm .nilf], [], 8⟩
theorem tk26 : TOk Tryz.prog 26 ti26 := tkm Tryz.underlying26 (.nilFunc)
def ti30 : TI := ⟨1, .other, [.imm .nilf], [], 8⟩
theorem tk30 : TOk Tryz.prog 30 ti30 := tkm Tryz.underlying30 (.nilFunc)
def ti31 : TI := ⟨1, .other, [.imm .nilf], [], 8⟩
theorem tk31 : TOk Tryz.prog 31 ti31 := tkm Tryz.underlying31 (.nilFunc)
def ti32 : TI := ⟨1, .other, [.imm .nilf], [], 8⟩
theorem tk32 : TOk Tryz.prog 32 ti32 := tkm Tryz.underlying32 (.nilFunc)
def ti33 : TI := ⟨1, .other, [.imm .nilf], [], 8⟩
theorem tk33 : TOk Tryz.prog 33 ti33 := tkm Tryz.underlying33 (.nilFunc)
def ti34 : TI := ⟨1, .other, [.imm .nilf], [], 8⟩
theorem tk34 : TOk Tryz.prog 34 ti34 := tkm Tryz.underlying34 (.nilFunc)
def ti45 : TI := ⟨1, .other, [.imm .nilf], [], 8⟩
theorem tk45 : TOk Tryz.prog 45 ti45 := tkm Tryz.underlying45 (.nilFunc)
def ti47 : TI := ⟨1, .other, [.imm .nilf], [], 8⟩
theorem tk47 : TOk Tryz.prog 47 ti47 := tkm Tryz.underlying47 (.nilFunc)
def ti49 : TI := ⟨1, .other, [.imm .nilf], [], 8⟩
theorem tk49 : TOk Tryz.prog 49 ti49 := tkm Tryz.underlying49 (.nilFunc)
def ti50 : TI := ⟨1, .other, [.imm .nilf], [], 8⟩
theorem tk50 : TOk Tryz.prog 50 ti50 := tkm Tryz.underlying50 (.nilFunc)
def ti51 : TI := ⟨1, .other, [.imm .nilf], [], 8⟩
theorem tk51 : TOk Tryz.prog 51 ti51 := tkm Tryz.underlying51 (.nilFunc)
def ti52 : TI := ⟨1, .other, [.imm .nilf], [], 8⟩
theorem tk52 : TOk Tryz.prog 52 ti52 := tkm Tryz.underlying52 (.nilFunc)
def ti53 : TI := ⟨1, .other, [.imm .nilf], [], 8⟩
theorem tk53 : TOk Tryz.prog 53 ti53 := tkm Tryz.underlying53 (.nilFunc)
def ti54 : TI := ⟨1, .other, [.imm .nilf], [], 8⟩
theorem tk54 : TOk Tryz.prog 54 ti54 := tkm Tryz.underlying54 (.nilFunc)
def ti59 : TI := ⟨1, .other, [.imm .nilf], [], 8⟩
theorem tk59 : TOk Tryz.prog 59 ti59 := tkm Tryz.underlying59 (.nilFunc)
def ti60 : TI := ⟨1, .other, [.imm .nilf], [], 8⟩
theorem tk60 : TOk Tryz.prog 60 ti60 := tkm Tryz.underlying60 (.nilFunc)
def ti62 : TI := ⟨1, .other, [.imm .nilf], [], 8⟩
theorem tk62 : TOk Tryz.prog 62 ti62 := tkm Tryz.underlying62 (.nilFunc)
def ti63 : TI := ⟨1, .other, [.imm .nilf], [], 8⟩
theorem tk63 : TOk Tryz.prog 63 ti63 := tkm Tryz.underlying63 (.nilFunc)
def ti65 : TI := ⟨1, .other, [.imm .nilf], [], 8⟩
theorem tk65 : TOk Tryz.prog 65 ti65 := tkm Tryz.underlying65 (.nilFunc)
def ti67 : TI := ⟨1, .other, [.imm .nilf], [], 8⟩
theorem tk67 : TOk Tryz.prog 67 ti67 := tkm Tryz.underlying67 (.nilFunc)
def ti68 : TI := ⟨1, .other, [.imm .nilf], [], 8⟩
theorem tk68 : TOk Tryz.prog 68 ti68 := tkm Tryz.underlying68 (.nilFunc)
def ti69 : TI := ⟨1, .other, [.imm .nilf], [], 8⟩
theorem tk69 : TOk Tryz.prog 69 ti69 := tkm Tryz.underlying69 (.nilFunc)
def ti70 : TI := ⟨1, .other, [.imm .nilf], [], 8⟩
theorem tk70 : TOk Tryz.prog 70 ti70 := tkm Tryz.underlying70 (.nilFunc)
def ti71 : TI := ⟨1, .other, [.imm .nilf], [], 8⟩
theorem tk71 : TOk Tryz.prog 71 ti71 := tkm Tryz.underlying71 (.nilFunc)
def ti72 : TI := ⟨1, .other, [.imm .nilf], [], 8⟩
theorem tk72 : TOk Tryz.prog 72 ti72 := tkm Tryz.underlying72 (.nilFunc)
def ti74 : TI := ⟨1, .other, [.imm .nilf], [], 8⟩
theorem tk74 : TOk Tryz.prog 74 ti74 := tkm Tryz.underlying74 (.nilFunc)
def ti75 : TI := ⟨1, .other, [.imm .nilf], [], 8⟩
theorem tk75 : TOk Tryz.prog 75 ti75 := tkm Tryz.underlying75 (.nilFunc)
def ti76 : TI := ⟨1, .other, [.imm .nilf], [], 8⟩
theorem tk76 : TOk Tryz.prog 76 ti76 := tkm Tryz.underlying76 (.nilFunc)
def ti77 : TI := ⟨1, .other, [.imm .nilf], [], 8⟩
theorem tk77 : TOk Tryz.prog 77 ti77 := tkm Tryz.underlying77 (.nilFunc)
def ti78 : TI := ⟨1, .other, [.imm .nilf], [], 8⟩
theorem tk78 : TOk Tryz.prog 78 ti78 := tkm Tryz.underlying78 (.nilFunc)
def ti79 : TI := ⟨1, .other, [.imm .nilf], [], 8⟩
theorem tk79 : TOk Tryz.prog 79 ti79 := tkm Tryz.underlying79 (.nilFunc)
def ti80 : TI := ⟨1, .other, [.imm .nilf], [], 8⟩
theorem tk80 : TOk Tryz.prog 80 ti80 := tkm Tryz.underlying80 (.nilFunc)
def ti81 : TI := ⟨1, .other, [.imm .nilf], [], 8⟩
theorem tk81 : TOk Tryz.prog 81 ti81 := tkm Tryz.underlying81 (.nilFunc)
def ti82 : TI := ⟨1, .other, [.imm .nilf], [], 8⟩
theorem tk82 : TOk Tryz.prog 82 ti82 := tkm Tryz.underlying82 (.nilFunc)
def ti83 : TI := ⟨1, .other, [.imm .nilf], [], 8⟩
theorem tk83 : TOk Tryz.prog 83 ti83 := tkm Tryz.underlying83 (.nilFunc)
def ti85 : TI := ⟨1, .other, [.imm .nilf], [], 8⟩
theorem tk85 : TOk Tryz.prog 85 ti85 := tkm Tryz.underlying85 (.nilFunc)
def ti89 : TI := ⟨1, .other, [.imm .nilf], [], 8⟩
theorem tk89 : TOk Tryz.prog 89 ti89 := tkm Tryz.underlying89 (.nilFunc)
def ti90 : TI := ⟨1, .other, [.imm .nilf], [], 8⟩
theorem tk90 : TOk Tryz.prog 90 ti90 := tkm Tryz.underlying90 (.nilFunc)
def ti91 : TI := ⟨1, .other, [.imm .nilf], [], 8⟩
theorem tk91 : TOk Tryz.prog 91 ti91 := tkm Tryz.underlying91 (.nilFunc)
def ti92 : TI := ⟨1, .other, [.imm .nilf], [], 8⟩
theorem tk92 : TOk Tryz.prog 92 ti92 := tkm Tryz.underlying92 (.nilFunc)
def ti93 : TI := ⟨1, .other, [.imm .nilf], [], 8⟩
theorem tk93 : TOk Tryz.prog 93 ti93 := tkm Tryz.underlying93 (.nilFunc)
def ti94 : TI := ⟨1, .other, [.imm .nilf], [], 8⟩
theorem tk94 : TOk Tryz.prog 94 ti94 := tkm Tryz.underlying94 (.nilFunc)
def ti96 : TI := ⟨1, .other, [.imm .nilf], [], 8⟩
theorem tk96 : TOk Tryz.prog 96 ti96 := tkm Tryz.underlying96 (.nilFunc)
def ti97 : TI := ⟨1, .other, [.imm .nilf], [], 8⟩
theorem tk97 : TOk Tryz.prog 97 ti97 := tkm Tryz.underlying97 (.nilFunc)
def ti98 : TI := ⟨1, .other, [.imm .nilf], [], 8⟩
theorem tk98 : TOk Tryz.prog 98 ti98 := tkm Tryz.underlying98 (.nilFunc)
def ti99 : TI := ⟨1, .other, [.imm .nilf], [], 8⟩
theorem tk99 : TOk Tryz.prog 99 ti99 := tkm Tryz.underlying99 (.nilFunc)
def ti101 : TI := ⟨1, .other, [.imm .nilf], [], 8⟩
theorem tk101 : TOk Tryz.prog 101 ti101 := tkm Tryz.underlying101 (.nilFunc)
def ti102 : TI := ⟨1, .other, [.imm .nilf], [], 8⟩
theorem tk102 : TOk Tryz.prog 102 ti102 := tkm Tryz.underlying102 (.nilFunc)
def ti105 : TI := ⟨1, .other, [.imm .nilf], [], 8⟩
theorem tk105 : TOk Tryz.prog 105 ti105 := tkm Tryz.underlying105 (.nilFunc)
def ti106 : TI := ⟨1, .other, [.imm .nilf], [], 8⟩
theorem tk106 : TOk Tryz.prog 106 ti106 := tkm Tryz.underlying106 (.nilFunc)
def ti108 : TI := ⟨1, .other, [.imm .nilf], [], 8⟩
theorem tk108 : TOk Tryz.prog 108 ti108 := tkm Tryz.underlying108 (.nilFunc)
def ti109 : TI := ⟨1, .other, [.imm .nilf], [], 8⟩
theorem tk109 : TOk Tryz.prog 109 ti109 := tkm Tryz.underlying109 (.nilFunc)
def ti111 : TI := ⟨1, .other, [.imm .nilf], [], 8⟩
theorem tk111 : TOk Tryz.prog 111 ti111 := tkm Tryz.underlying111 (.nilFunc)
def ti113 : TI := ⟨1, .other, [.imm .nilf], [], 8⟩
theorem tk113 : TOk Tryz.prog 113 ti113 := tkm Tryz.underlying113 (.nilFunc)
def ti114 : TI := ⟨1, .other, [.imm .nilf], [], 8⟩
theorem tk114 : TOk Tryz.prog 114 ti114 := tkm Tryz.underlying114 (.nilFunc)
def ti115 : TI := ⟨1, .other, [.imm .nilf], [], 8⟩
theorem tk115 : TOk Tryz.prog 115 ti115 := tkm Tryz.underlying115 (.nilFunc)
def ti117 : TI := ⟨1, .other, [.imm .nilf], [], 8⟩
theorem tk117 : TOk Tryz.prog 117 ti117 := tkm Tryz.underlying117 (.nilFunc)
def ti118 : TI := ⟨1, .other, [.imm .nilf], [], 8⟩
theorem tk118 : TOk Tryz.prog 118 ti118 := tkm Tryz.underlying118 (.nilFunc)
def ti119 : TI := ⟨1, .other, [.imm .nilf], [], 8⟩
theorem tk119 : TOk Tryz.prog 119 ti119 := tkm Tryz.underlying119 (.nilFunc)
def ti122 : TI := ⟨1, .other, [.imm .nilf], [], 8⟩
theorem tk122 : TOk Tryz.prog 122 ti122 := tkm Tryz.underlying122 (.nilFunc)
def ti124 : TI := ⟨1, .other, [.imm .nilf], [], 8⟩
theorem tk124 : TOk Tryz.prog 124 ti124 := tkm Tryz.underlying124 (.nilFunc)
def ti129 : TI := ⟨1, .other, [.imm .nilf], [], 8⟩
theorem tk129 : TOk Tryz.prog 129 ti129 := tkm Tryz.underlying129 (.nilFunc)
def ti131 : TI := ⟨1, .other, [.imm .nilf], [], 8⟩
theorem tk131 : TOk Tryz.prog 131 ti131 := tkm Tryz.underlying131 (.nilFunc)
def ti134 : TI := ⟨1, .other, [.imm .nilf], [], 8⟩
theorem tk134 : TOk Tryz.prog 134 ti134 := tkm Tryz.underlying134 (.nilFunc)
def ti135 : TI := ⟨1, .other, [.imm .nilf], [], 8⟩
theorem tk135 : TOk Tryz.prog 135 ti135 := tkm Tryz.underlying135 (.nilFunc)
def ti136 : TI := ⟨1, .other, [.imm .nilf], [], 8⟩
theorem tk136 : TOk Tryz.prog 136 ti136 := tkm Tryz.underlying136 (.nilFunc)
def ti137 : TI := ⟨1, .other, [.imm .nilf], [], 8⟩
theorem tk137 : TOk Tryz.prog 137 ti137 := tkm Tryz.underlying137 (.nilFunc)
def ti138 : TI := ⟨1, .other, [.imm .nilf], [], 8⟩
theorem tk138 : TOk Tryz.prog 138 ti138 := tkm Tryz.underlying138 (.nilFunc)
def ti139 : TI := ⟨1, .other, [.imm .nilf], [], 8⟩
theorem tk139 : TOk Tryz.prog 139 ti139 := tkm Tryz.underlying139 (.nilFunc)
def ti140 : TI := ⟨1, .other, [.imm .nilf], [], 8⟩
theorem tk140 : TOk Tryz.prog 140 ti140 := tkm Tryz.underlying140 (.nilFunc)
def ti142 : TI := ⟨1, .other, [.imm .nilf], [], 8⟩
theorem tk142 : TOk Tryz.prog 142 ti142 := tkm Tryz.underlying142 (.nilFunc)
def ti144 : TI := ⟨1, .other, [.imm .nilf], [], 8⟩
theorem tk144 : TOk Tryz.prog 144 ti144 := tkm Tryz.underlying144 (.nilFunc)
def ti147 : TI := ⟨1, .other, [.imm .nilf], [], 8⟩
theorem tk147 : TOk Tryz.prog 147 ti147 := tkm Tryz.underlying147 (.nilFunc)
def ti148 : TI := ⟨1, .other, [.imm .nilf], [], 8⟩
theorem tk148 : TOk Tryz.prog 148 ti148 := tkm Tryz.underlying148 (.nilFunc)
def ti149 : TI := ⟨1, .other, [.imm .nilf], [], 8⟩
theorem tk149 : TOk Tryz.prog 149 ti149 := tkm Tryz.underlying149 (.nilFunc)
def ti150 : TI := ⟨1, .other, [.imm .nilf], [], 8⟩
theorem tk150 : TOk Tryz.prog 150 ti150 := tkm Tryz.underlying150 (.nilFunc)
def ti151 : TI := ⟨1, .other, [.imm .nilf], [], 8⟩
theorem tk151 : TOk Tryz.prog 151 ti151 := tkm Tryz.underlying151 (.nilFunc)
def ti152 : TI := ⟨1, .other, [.imm .nilf], [], 8⟩
theorem tk152 : TOk Tryz.prog 152 ti152 := tkm Tryz.underlying152 (.nilFunc)
def ti155 : TI := ⟨1, .other, [.imm .nilf], [], 8⟩
theorem tk155 : TOk Tryz.prog 155 ti155 := tkm Tryz.underlying155 (.nilFunc)
def ti156 : TI := ⟨1, .other, [.imm .nilf], [], 8⟩
theorem tk156 : TOk Tryz.prog 156 ti156 := tkm Tryz.underlying156 (.nilFunc)
def ti157 : TI := ⟨1, .other, [.imm .nilf], [], 8⟩
theorem tk157 : TOk Tryz.prog 157 ti157 := tkm Tryz.underlying157 (.nilFunc)
def ti158 : TI := ⟨1, .other, [.imm .nilf], [], 8⟩
theorem tk158 : TOk Tryz.prog 158 ti158 := tkm Tryz.underlying158 (.nilFunc)
def ti160 : TI := ⟨1, .other, [.imm .nilf], [], 8⟩
theorem tk160 : TOk Tryz.prog 160 ti160 := tkm Tryz.underlying160 (.nilFunc)
def ti161 : TI := ⟨1, .other, [.imm .nilf], [], 8⟩
theorem tk161 : TOk Tryz.prog 161 ti161 := tkm Tryz.underlying161 (.nilFunc)
def ti162 : TI := ⟨1, .other, [.imm .nilp], [], 8⟩
theorem tk162 : TOk Tryz.prog 162 ti162 := tkm Tryz.underlying162 (.pointer none)
def ti163 : TI := ⟨1, .other, [.imm .nilf], [], 8⟩
theorem tk163 : TOk Tryz.prog 163 ti163 := tkm Tryz.underlying163 (.nilFunc)
def ti164 : TI := ⟨1, .other, [.imm .nilf], [], 8⟩
theorem tk164 : TOk Tryz.prog 164 ti164 := tkm Tryz.underlying164 (.nilFunc)
def ti165 : TI := ⟨1, .other, [.imm .nilf], [], 8⟩
theorem tk165 : TOk Tryz.prog 165 ti165 := tkm Tryz.underlying165 (.nilFunc)
def ti168 : TI := ⟨1, .other, [.imm .nilf], [], 8⟩
theorem tk168 : TOk Tryz.prog 168 ti168 := tkm Tryz.underlying168 (.nilFunc)
def ti169 : TI := ⟨1, .other, [.imm .nilf], [], 8⟩
theorem tk169 : TOk Tryz.prog 169 ti169 := tkm Tryz.underlying169 (.nilFunc)
def ti170 : TI := ⟨1, .other, [.imm .nilf], [], 8⟩
theorem tk170 : TOk Tryz.prog 170 ti170 := tkm Tryz.underlying170 (.nilFunc)
def ti171 : TI := ⟨1, .other, [.imm .nilf], [], 8⟩
theorem tk171 : TOk Tryz.prog 171 ti171 := tkm Tryz.underlying171 (.nilFunc)
def ti172 : TI := ⟨1, .other, [.imm .nilf], [], 8⟩
theorem tk172 : TOk Tryz.prog 172 ti172 := tkm Tryz.underlying172 (.nilFunc)
def ti173 : TI := ⟨1, .other, [.imm .nilf], [], 8⟩
theorem tk173 : TOk Tryz.prog 173 ti173 := tkm Tryz.underlying173 (.nilFunc)
def ti174 : TI := ⟨1, .other, [.imm .nilf], [], 8⟩
theorem tk174 : TOk Tryz.prog 174 ti174 := tkm Tryz.underlying174 (.nilFunc)
def ti178 : TI := ⟨1, .other, [.imm .nilf], [], 8⟩
theorem tk178 : TOk Tryz.prog 178 ti178 := tkm Tryz.underlying178 (.nilFunc)
def ti181 : TI := ⟨1, .other, [.imm .nilf], [], 8⟩
theorem tk181 : TOk Tryz.prog 181 ti181 := tkm Tryz.underlying181 (.nilFunc)
def ti182 : TI := ⟨1, .other, [.imm .nilf], [], 8⟩
theorem tk182 : TOk Tryz.prog 182 ti182 := tkm Tryz.underlying182 (.nilFunc)
def ti183 : TI := ⟨1, .other, [.imm .nilf], [], 8⟩
theorem tk183 : TOk Tryz.prog 183 ti183 := tkm Tryz.underlying183 (.nilFunc)
def ti184 : TI := ⟨1, .other, [.imm .nilf], [], 8⟩
theorem tk184 : TOk Tryz.prog 184 ti184 := tkm Tryz.underlying184 (.nilFunc)
def ti185 : TI := ⟨1, .other, [.imm .nilf], [], 8⟩
theorem tk185 : TOk Tryz.prog 185 ti185 := tkm Tryz.underlying185 (.nilFunc)
def ti186 : TI := ⟨1, .other, [.imm .nilf], [], 8⟩
theorem tk186 : TOk Tryz.prog 186 ti186 := tkm Tryz.underlying186 (.nilFunc)
def ti187 : TI := ⟨1, .other, [.imm .nilf], [], 8⟩
theorem tk187 : TOk Tryz.prog 187 ti187 := tkm Tryz.underlying187 (.nilFunc)
def ti189 : TI := ⟨1, .other, [.imm .nilf], [], 8⟩
theorem tk189 : TOk Tryz.prog 189 ti189 := tkm Tryz.underlying189 (.nilFunc)
def ti190 : TI := ⟨1, .other, [.imm .nilf], [], 8⟩
theorem tk190 : TOk Tryz.prog 190 ti190 := tkm Tryz.underlying190 (.nilFunc)
def ti191 : TI := ⟨1, .other, [.imm .nilf], [], 8⟩
theorem tk191 : TOk Tryz.prog 191 ti191 := tkm Tryz.underlying191 (.nilFunc)
def tab : List (Nat × TI) := [(3, ti3), (44, ti44), (58, ti58), (24, ti24), (4, ti4), (37, ti37), (41, ti41), (22, ti22), (9, ti9), (39, ti39), (36, ti36), (40, ti40), (28, ti28), (56, ti56), (104, ti104), (146, ti146), (42, ti42), (112, ti112), (27, ti27), (126, ti126), (55, ti55), (177, ti177), (73, ti73), (141, ti141), (167, ti167), (179, ti179), (35, ti35), (133, ti133), (153, ti153), (116, ti116), (123, ti123), (130, ti130), (188, ti188), (159, ti159), (95, ti95), (87, ti87), (25, ti25), (132, ti132), (21, ti21), (5, ti5), (23, ti23), (38, ti38), (43, ti43), (57, ti57), (86, ti86), (103, ti103), (125, ti125), (145, ti145), (166, ti166), (176, ti176), (107, ti107), (1, ti1), (2, ti2), (26, ti26), (30, ti30), (31, ti31), (32, ti32), (33, ti33), (34, ti34), (45, ti45), (47, ti47), (49, ti49), (50, ti50), (51, ti51), (52, ti52), (53, ti53), (54, ti54), (59, ti59), (60, ti60), (62, ti62), (63, ti63), (65, ti65), (67, ti67), (68, ti68), (69, ti69), (70, ti70), (71, ti71), (72, ti72), (74, ti74), (75, ti75), (76, ti76), (77, ti77), (78, ti78), (79, ti79), (80, ti80), (81, ti81), (82, ti82), (83, ti83), (85, ti85), (89, ti89), (90, ti90), (91, ti91), (92, ti92), (93, ti93), (94, ti94), (96, ti96), (97, ti97), (98, ti98), (99, ti99), (101, ti101), (102, ti102), (105, ti105), (106, ti106), (108, ti108), (109, ti109), (111, ti111), (113, ti113), (114, ti114), (115, ti115), (117, ti117), (118, ti118), (119, ti119), (122, ti122), (124, ti124), (129, ti129), (131, ti131), (134, ti134), (135, ti135), (136, ti136), (137, ti137), (138, ti138), (139, ti139), (140, ti140), (142, ti142), (144, ti144), (147, ti147), (148, ti148), (149, ti149), (150, ti150), (151, ti151), (152, ti152), (155, ti155), (156, ti156), (157, ti157), (158, ti158), (160, ti160), (161, ti161), (162, ti162), (163, ti163), (164, ti164), (165, ti165), (168, ti168), (169, ti169), (170, ti170), (171, ti171), (172, ti172), (173, ti173), (174, ti174), (178, ti178), (181, ti181), (182, ti182), (183, ti183), (184, ti184), (185, ti185), (186, ti186), (187, ti187), (189, ti189), (190, ti190), (191, ti191)]
theorem mixed : Tryz.prog.follows .mixedOrders = true := by kernel_rfl
theorem tabs : TsOK Tryz.prog tab := .cons tk3 (.cons tk44 (.cons tk58 (.cons tk24 (.cons tk4 (.cons tk37 (.cons tk41 (.cons tk22 (.cons tk9 (.cons tk39 (.cons tk36 (.cons tk40 (.cons tk28 (.cons tk56 (.cons tk104 (.cons tk146 (.cons tk42 (.cons tk112 (.cons tk27 (.cons tk126 (.cons tk55 (.cons tk177 (.cons tk73 (.cons tk141 (.cons tk167 (.cons tk179 (.cons tk35 (.cons tk133 (.cons tk153 (.cons tk116 (.cons tk123 (.cons tk130 (.cons tk188 (.cons tk159 (.cons tk95 (.cons tk87 (.cons tk25 (.cons tk132 (.cons tk21 (.cons tk5 (.cons tk23 (.cons tk38 (.cons tk43 (.cons tk57 (.cons tk86 (.cons tk103 (.cons tk125 (.cons tk145 (.cons tk166 (.cons tk176 (.cons tk107 (.cons tk1 (.cons tk2 (.cons tk26 (.cons tk30 (.cons tk31 (.cons tk32 (.cons tk33 (.cons tk34 (.cons tk45 (.cons tk47 (.cons tk49 (.cons tk50 (.cons tk51 (.cons tk52 (.cons tk53 (.cons tk54 (.cons tk59 (.cons tk60 (.cons tk62 (.cons tk63 (.cons tk65 (.cons tk67 (.cons tk68 (.cons tk69 (.cons tk70 (.cons tk71 (.cons tk72 (.cons tk74 (.cons tk75 (.cons tk76 (.cons tk77 (.cons tk78 (.cons tk79 (.cons tk80 (.cons tk81 (.cons tk82 (.cons tk83 (.cons tk85 (.cons tk89 (.cons tk90 (.cons tk91 (.cons tk92 (.cons tk93 (.cons tk94 (.cons tk96 (.cons tk97 (.cons tk98 (.cons tk99 (.cons tk101 (.cons tk102 (.cons tk105 (.cons tk106 (.cons tk108 (.cons tk109 (.cons tk111 (.cons tk113 (.cons tk114 (.cons tk115 (.cons tk117 (.cons tk118 (.cons tk119 (.cons tk122 (.cons tk124 (.cons tk129 (.cons tk131 (.cons tk134 (.cons tk135 (.cons tk136 (.cons tk137 (.cons tk138 (.cons tk139 (.cons tk140 (.cons tk142 (.cons tk144 (.cons tk147 (.cons tk148 (.cons tk149 (.cons tk150 (.cons tk151 (.cons tk152 (.cons tk155 (.cons tk156 (.cons tk157 (.cons tk158 (.cons tk160 (.cons tk161 (.cons tk162 (.cons tk163 (.cons tk164 (.cons tk165 (.cons tk168 (.cons tk169 (.cons tk170 (.cons tk171 (.cons tk172 (.cons tk173 (.cons tk174 (.cons tk178 (.cons tk181 (.cons tk182 (.cons tk183 (.cons tk184 (.cons tk185 (.cons tk186 (.cons tk187 (.cons tk189 (.cons tk190 (.cons tk191 (TsOK.nil _)))))))))))))))))))))))))))))))))))))))))))))))))))))))))))))))))))))))))))))))))))))))))))))))))))))))))))))))))))))))))))))))))))))))))))))))))))))))))))))))
set_option maxRecDepth 100000
theorem eqd39 (d : Nat) (w : World) (x0 y0 : ByteArray) (x1 y1 : ByteArray) (x2 y2 : ByteArray) : (Op.equalIn (d + 2) 39 (.agg [.string x0, .string x1, .string x2].toArray) (.agg [.string y0, .string y1, .string y2].toArray)).run Tryz.prog w = .ok ((dec (x0 = y0) && (dec (x1 = y1) && dec (x2 = y2)))) w := by
  refine qhe (d := d + 1) Tryz.underlying39 (by kernel_rfl) ?_
  refine qak (by decide) (qu tk9 rfl _ _ rfl) (qu tk9 rfl _ _ rfl) (qb8 (d := d + 0) Tryz.underlying9) ?_
  refine qak (by decide) (qu tk9 rfl _ _ rfl) (qu tk9 rfl _ _ rfl) (qb8 (d := d + 0) Tryz.underlying9) ?_
  refine qdf (by decide) (qu tk9 rfl _ _ rfl) (qu tk9 rfl _ _ rfl) (qb8 (d := d + 0) Tryz.underlying9)
noncomputable def eqv39 : List AV → List AV → Option Bool
  | [.imm (.str x0), .imm (.str x1), .imm (.str x2)], [.imm (.str y0), .imm (.str y1), .imm (.str y2)] => some ((dec (x0 = y0) && (dec (x1 = y1) && dec (x2 = y2))))
  | _, _ => none
theorem eqt39 : EqT Tryz.prog 39 eqv39 := by
  refine ⟨by kernel_rfl, fun M l m b xs ys w hf hl hm => ?_⟩
  unfold eqv39 at hf
  split at hf
  · obtain rfl := Option.some.inj hf
    obtain ⟨xs0, rfl, hl0⟩ := qba hl
    obtain ⟨xs1, rfl, hl1⟩ := qba hl0
    obtain ⟨xs2, rfl, hl2⟩ := qba hl1
    obtain rfl := qh1 hl2
    obtain ⟨ys0, rfl, hm0⟩ := qba hm
    obtain ⟨ys1, rfl, hm1⟩ := qba hm0
    obtain ⟨ys2, rfl, hm2⟩ := qba hm1
    obtain rfl := qh1 hm2
    exact qcx 9998 2 rfl (eqd39 9998 w _ _ _ _ _ _)
  · cases hf
theorem eqd104 (d : Nat) (w : World) (x0 y0 : ByteArray) (x1 y1 : ByteArray) (x2 y2 : ByteArray) (x3 y3 : ByteArray) : (Op.equalIn (d + 3) 104 (.agg [.string x0, .string x1, .string x2, .string x3].toArray) (.agg [.string y0, .string y1, .string y2, .string y3].toArray)).run Tryz.prog w = .ok (((dec (x0 = y0) && (dec (x1 = y1) && dec (x2 = y2))) && dec (x3 = y3))) w := by
  refine qhe (d := d + 2) Tryz.underlying104 (by kernel_rfl) ?_
  refine qak (by decide) (qhg tk39 rfl _ _ rfl) (qhg tk39 rfl _ _ rfl) (by have := eqd39 (d + 0) w x0 y0 x1 y1 x2 y2; exact this) ?_
  refine qdf (by decide) (qu tk9 rfl _ _ rfl) (qu tk9 rfl _ _ rfl) (qb8 (d := d + 1) Tryz.underlying9)
noncomputable def eqv104 : List AV → List AV → Option Bool
  | [.imm (.str x0), .imm (.str x1), .imm (.str x2), .imm (.str x3)], [.imm (.str y0), .imm (.str y1), .imm (.str y2), .imm (.str y3)] => some (((dec (x0 = y0) && (dec (x1 = y1) && dec (x2 = y2))) && dec (x3 = y3)))
  | _, _ => none
theorem eqt104 : EqT Tryz.prog 104 eqv104 := by
  refine ⟨by kernel_rfl, fun M l m b xs ys w hf hl hm => ?_⟩
  unfold eqv104 at hf
  split at hf
  · obtain rfl := Option.some.inj hf
    obtain ⟨xs0, rfl, hl0⟩ := qba hl
    obtain ⟨xs1, rfl, hl1⟩ := qba hl0
    obtain ⟨xs2, rfl, hl2⟩ := qba hl1
    obtain ⟨xs3, rfl, hl3⟩ := qba hl2
    obtain rfl := qh1 hl3
    obtain ⟨ys0, rfl, hm0⟩ := qba hm
    obtain ⟨ys1, rfl, hm1⟩ := qba hm0
    obtain ⟨ys2, rfl, hm2⟩ := qba hm1
    obtain ⟨ys3, rfl, hm3⟩ := qba hm2
    obtain rfl := qh1 hm3
    exact qcx 9997 3 rfl (eqd104 9997 w _ _ _ _ _ _ _ _)
  · cases hf
theorem eqd177 (d : Nat) (w : World) (x0 y0 : ByteArray) (x1 y1 : ByteArray) : (Op.equalIn (d + 2) 177 (.agg [.string x0, .string x1].toArray) (.agg [.string y0, .string y1].toArray)).run Tryz.prog w = .ok ((dec (x0 = y0) && dec (x1 = y1))) w := by
  refine qhe (d := d + 1) Tryz.underlying177 (by kernel_rfl) ?_
  refine qak (by decide) (qu tk9 rfl _ _ rfl) (qu tk9 rfl _ _ rfl) (qb8 (d := d + 0) Tryz.underlying9) ?_
  refine qdf (by decide) (qu tk9 rfl _ _ rfl) (qu tk9 rfl _ _ rfl) (qb8 (d := d + 0) Tryz.underlying9)
theorem eqd167 (d : Nat) (w : World) (x0 y0 : Int) (x1 y1 : ByteArray) (x2 y2 : ByteArray) (x3 y3 : ByteArray) (x4 y4 : ByteArray) (x5 y5 : ByteArray) (x6 y6 : Int) (x7 y7 : Int) (x8 y8 : Int) (x9 y9 : Int) (x10 y10 : Int) (x11 y11 : Bool) (x12 y12 : Bool) : (Op.equalIn (d + 3) 167 (.agg [.int .u8 x0, .string x1, .string x2, .string x3, .string x4, .string x5, .int .i64 x6, .int .i64 x7, .int .i64 x8, .int .i64 x9, .int .u8 x10, .bool x11, .bool x12].toArray) (.agg [.int .u8 y0, .string y1, .string y2, .string y3, .string y4, .string y5, .int .i64 y6, .int .i64 y7, .int .i64 y8, .int .i64 y9, .int .u8 y10, .bool y11, .bool y12].toArray)).run Tryz.prog w = .ok ((dec (x0 = y0) && ((dec (x1 = y1) && (dec (x2 = y2) && dec (x3 = y3))) && (dec (x4 = y4) && (dec (x5 = y5) && (dec (x6 = y6) && (dec (x7 = y7) && (dec (x8 = y8) && (dec (x9 = y9) && (dec (x10 = y10) && ((x11 == y11) && (x12 == y12)))))))))))) w := by
  refine qhe (d := d + 2) Tryz.underlying167 (by kernel_rfl) ?_
  refine qak (by decide) (qu tk37 rfl _ _ rfl) (qu tk37 rfl _ _ rfl) (qcq (d := d + 1) Tryz.underlying37) ?_
  refine qak (by decide) (qhg tk39 rfl _ _ rfl) (qhg tk39 rfl _ _ rfl) (by have := eqd39 (d + 0) w x1 y1 x2 y2 x3 y3; exact this) ?_
  refine qak (by decide) (qu tk9 rfl _ _ rfl) (qu tk9 rfl _ _ rfl) (qb8 (d := d + 1) Tryz.underlying9) ?_
  refine qak (by decide) (qu tk9 rfl _ _ rfl) (qu tk9 rfl _ _ rfl) (qb8 (d := d + 1) Tryz.underlying9) ?_
  refine qak (by decide) (qu tk3 rfl _ _ rfl) (qu tk3 rfl _ _ rfl) (qcq (d := d + 1) Tryz.underlying3) ?_
  refine qak (by decide) (qu tk3 rfl _ _ rfl) (qu tk3 rfl _ _ rfl) (qcq (d := d + 1) Tryz.underlying3) ?_
  refine qak (by decide) (qu tk3 rfl _ _ rfl) (qu tk3 rfl _ _ rfl) (qcq (d := d + 1) Tryz.underlying3) ?_
  refine qak (by decide) (qu tk3 rfl _ _ rfl) (qu tk3 rfl _ _ rfl) (qcq (d := d + 1) Tryz.underlying3) ?_
  refine qak (by decide) (qu tk42 rfl _ _ rfl) (qu tk42 rfl _ _ rfl) (qcq (d := d + 1) Tryz.underlying42) ?_
  refine qak (by decide) (qu tk4 rfl _ _ rfl) (qu tk4 rfl _ _ rfl) (qhf (d := d + 1) Tryz.underlying4) ?_
  refine qdf (by decide) (qu tk4 rfl _ _ rfl) (qu tk4 rfl _ _ rfl) (qhf (d := d + 1) Tryz.underlying4)
noncomputable def eqv167 : List AV → List AV → Option Bool
  | [.imm (.int .u8 x0), .imm (.str x1), .imm (.str x2), .imm (.str x3), .imm (.str x4), .imm (.str x5), .imm (.int .i64 x6), .imm (.int .i64 x7), .imm (.int .i64 x8), .imm (.int .i64 x9), .imm (.int .u8 x10), .imm (.bool x11), .imm (.bool x12)], [.imm (.int .u8 y0), .imm (.str y1), .imm (.str y2), .imm (.str y3), .imm (.str y4), .imm (.str y5), .imm (.int .i64 y6), .imm (.int .i64 y7), .imm (.int .i64 y8), .imm (.int .i64 y9), .imm (.int .u8 y10), .imm (.bool y11), .imm (.bool y12)] => some ((dec (x0 = y0) && ((dec (x1 = y1) && (dec (x2 = y2) && dec (x3 = y3))) && (dec (x4 = y4) && (dec (x5 = y5) && (dec (x6 = y6) && (dec (x7 = y7) && (dec (x8 = y8) && (dec (x9 = y9) && (dec (x10 = y10) && ((x11 == y11) && (x12 == y12))))))))))))
  | _, _ => none
theorem eqt167 : EqT Tryz.prog 167 eqv167 := by
  refine ⟨by kernel_rfl, fun M l m b xs ys w hf hl hm => ?_⟩
  unfold eqv167 at hf
  split at hf
  · obtain rfl := Option.some.inj hf
    obtain ⟨xs0, rfl, hl0⟩ := qdb hl
    obtain ⟨xs1, rfl, hl1⟩ := qba hl0
    obtain ⟨xs2, rfl, hl2⟩ := qba hl1
    obtain ⟨xs3, rfl, hl3⟩ := qba hl2
    obtain ⟨xs4, rfl, hl4⟩ := qba hl3
    obtain ⟨xs5, rfl, hl5⟩ := qba hl4
    obtain ⟨xs6, rfl, hl6⟩ := qdb hl5
    obtain ⟨xs7, rfl, hl7⟩ := qdb hl6
    obtain ⟨xs8, rfl, hl8⟩ := qdb hl7
    obtain ⟨xs9, rfl, hl9⟩ := qdb hl8
    obtain ⟨xs10, rfl, hl10⟩ := qdb hl9
    obtain ⟨xs11, rfl, hl11⟩ := qhh hl10
    obtain ⟨xs12, rfl, hl12⟩ := qhh hl11
    obtain rfl := qh1 hl12
    obtain ⟨ys0, rfl, hm0⟩ := qdb hm
    obtain ⟨ys1, rfl, hm1⟩ := qba hm0
    obtain ⟨ys2, rfl, hm2⟩ := qba hm1
    obtain ⟨ys3, rfl, hm3⟩ := qba hm2
    obtain ⟨ys4, rfl, hm4⟩ := qba hm3
    obtain ⟨ys5, rfl, hm5⟩ := qba hm4
    obtain ⟨ys6, rfl, hm6⟩ := qdb hm5
    obtain ⟨ys7, rfl, hm7⟩ := qdb hm6
    obtain ⟨ys8, rfl, hm8⟩ := qdb hm7
    obtain ⟨ys9, rfl, hm9⟩ := qdb hm8
    obtain ⟨ys10, rfl, hm10⟩ := qdb hm9
    obtain ⟨ys11, rfl, hm11⟩ := qhh hm10
    obtain ⟨ys12, rfl, hm12⟩ := qhh hm11
    obtain rfl := qh1 hm12
    exact qcx 9997 3 rfl (eqd167 9997 w _ _ _ _ _ _ _ _ _ _ _ _ _ _ _ _ _ _ _ _ _ _ _ _ _ _)
  · cases hf
theorem qi0 {p q : Prop} : (dec p && dec q) = dec (p ∧ q) := by
  by_cases hp : p <;> by_cases hq : q <;> simp [qa, hp, hq]
theorem key3 : KeyT Tryz.prog 3 (fun n : Int => .int .i64 n) (fun n => [.int .i64 n]) := KeyT.int Tryz.underlying3 .i64
theorem key56 : KeyT Tryz.prog 56 (fun n : Int => .int .u8 n) (fun n => [.int .u8 n]) := KeyT.int Tryz.underlying56 .u8
theorem key177 : KeyT Tryz.prog 177 (fun p : ByteArray × ByteArray => .agg #[.string p.1, .string p.2]) (fun p => [.str p.1, .str p.2]) := by
  refine KeyT.two Tryz.underlying177 ?_ ?_
  · intro e a b w
    rfl
  · intro x y w
    have := eqd177 9998 w x.1 y.1 x.2 y.2
    rw [qi0, show (x.1 = y.1 ∧ x.2 = y.2) = (x = y) by rw [Prod.ext_iff]] at this
    exact qcx 9998 2 rfl this
theorem zero3 (w : World) : (zeroValue 3).run Tryz.prog w = .ok (.int .i64 0) w := rfl
structure Name where
  sp : ByteArray
  pf : ByteArray
  lc : ByteArray
structure Attr where
  name : Name
  value : ByteArray
structure Node where
  kind : Int
  name : Name
  pub : ByteArray
  sys : ByteArray
  data : List Int
  attrs : List Attr
  parent : Int
  kids : List Int
  doc : Int
  host : Int
  shadow : Int
  mode : Int
  manual : Bool
  html : Bool
def es : ByteArray := ⟨#[]⟩
def Name.iv (n : Name) : List IV := [.str n.sp, .str n.pf, .str n.lc]
def Attr.iv (a : Attr) : List IV := [.str a.name.sp, .str a.name.pf, .str a.name.lc, .str a.value]
def u16 (x : Int) : List IV := [.int .u16 x]
def i64 (x : Int) : List IV := [.int .i64 x]
def Node.iv (n : Node) : List IV := [.int .u8 n.kind, .str n.name.sp, .str n.name.pf, .str n.name.lc, .str n.pub, .str n.sys, .sl (n.data.map u16), .sl (n.attrs.map Attr.iv), .int .i64 n.parent, .sl (n.kids.map i64), .int .i64 n.doc, .int .i64 n.host, .int .i64 n.shadow, .int .u8 n.mode, .bool n.manual, .bool n.html]
def Name.av (n : Name) : AV := .agg (n.iv.map .imm)
def Attr.av (a : Attr) : AV := .agg (a.iv.map .imm)
def Node.av (n : Node) : AV := .agg (n.iv.map .imm)
def fav (f : List Node) : AV := .agg [.imm (.sl (f.map Node.iv))]
def iav (n : Int) : AV := .imm (.int .i64 n)
def kav (n : Int) : AV := .imm (.int .u8 n)
def bav (b : Bool) : AV := .imm (.bool b)
def sav (s : ByteArray) : AV := .imm (.str s)
def n0 : Node := ⟨0, ⟨es, es, es⟩, es, es, [], [], 0, [], 0, 0, 0, 0, false, false⟩
def a0 : Attr := ⟨⟨es, es, es⟩, es⟩
instance : Inhabited Node := ⟨n0⟩
instance : Inhabited Attr := ⟨a0⟩
set_option linter.unusedSimpArgs false
theorem qi {α : Type} [Inhabited α] {l : List α} {i : Int} (h0 : 0 ≤ i) (h1 : i < l.length) : l.take (i + 1).toNat = l.take i.toNat ++ [atI l i] := by
  rw [show (i + 1).toNat = i.toNat + 1 by omega, List.take_succ_eq_append_getElem (by omega)]
  unfold atI
  rw [List.getD_eq_getElem?_getD, List.getElem?_eq_getElem (by omega)]
  rfl
theorem qq {α : Type} {l : List α} {i : Int} (h : l.length ≤ i) : l.take i.toNat = l := List.take_of_length_le (by omega)
theorem qa8 {α : Type} [Inhabited α] {l : List α} {i : Int} (h0 : 0 ≤ i) (h1 : i < l.length) : atI l i ∈ l := List.mem_of_getElem? (qaz h0 h1)
def nodeAt (f : List Node) (h : Int) : Node := if 1 ≤ h ∧ h ≤ f.length then atI f (h - 1) else n0
def inB (f : List Node) (h : Int) : Bool := decide (1 ≤ h ∧ h ≤ f.length)
theorem at_c (f : List Node) (h : Int) (hl : f.length ≤ 1000000000) : PureC Tryz.prog 145 [fav f, iav h] (.tup [(nodeAt f h).av, bav (inB f h)]) := by
  unfold nodeAt inB
  refine yq tabs Tryz.func145 22 _ rfl rfl rfl rfl rfl ?_
  intro w0 X
  (repeat' (first | ((with_reducible show AL _ _ _ _ _); first | (refine AL.step tabs rfl ?_; try dsimp only [len, List.nil_append, List.cons_append]) | refine ym ?_ | (refine yj rfl rfl rfl (fun hc => ?_) (fun hc => ?_) <;> (fail_if_success (exact absurd hc (by decide))) <;> (try simp only [hsx] at hc) <;> (try first | omega | contradiction | (simp [qa] at hc; done))) | (refine AL.op rfl (yi rfl rfl rfl rfl rfl (by omega) (by omega)) ?_) | (refine AL.op rfl (ye tabs rfl rfl rfl rfl rfl rfl rfl (fun _ => rfl) (by decide) (by omega) (by omega)) ?_)) | refine yn ?_ | refine yc ?_ | refine ya ?_ | refine yf ?_ | refine yh rfl ?_ | refine yg rfl ?_ | (refine yk rfl (fun hc => ?_) (fun hc => ?_) <;> (try simp only [hsx] at hc) <;> (try first | omega | contradiction | (simp [qa] at hc; done))) | refine yo ?_ | refine yd ?_))
  · rw [if_neg (by omega), show decide (1 ≤ h ∧ h ≤ f.length) = false by simp; omega]
    exact RQ.fin rfl rfl rfl
  · rw [if_neg (by omega), show decide (1 ≤ h ∧ h ≤ f.length) = false by simp; omega]
    exact RQ.fin rfl rfl rfl
  · rw [if_pos (by omega), show decide (1 ≤ h ∧ h ≤ f.length) = true by simp; omega]
    exact RQ.fin rfl rfl rfl
theorem qmt (f : List Node) (h : Int) (hl : f.length ≤ 1000000000) : PureC Tryz.prog 147 [fav f, iav h] (kav (nodeAt f h).kind) := by
  refine yq tabs Tryz.func147 15 _ rfl rfl rfl rfl rfl ?_
  intro w0 X
  (repeat' (first | ((with_reducible show AL _ _ _ _ _); first | (refine AL.step tabs rfl ?_; try dsimp only [len, List.nil_append, List.cons_append]) | refine AL.op rfl (yb rfl rfl rfl rfl (at_c _ _ hl) rfl) ?_ | refine ym ?_) | refine yn ?_ | refine yc ?_ | refine ya ?_ | refine yf ?_ | refine yo ?_ | refine yd ?_))
  exact RQ.fin rfl rfl rfl
def aboveOf (n : Node) : Int := if n.kind = 12 then n.host else n.parent
theorem qnd (n : Node) : PureC Tryz.prog 140 [n.av] (iav (aboveOf n)) := by
  refine yq tabs Tryz.func140 10 _ rfl rfl rfl rfl rfl ?_
  intro w0 X
  unfold aboveOf
  (repeat' (first | ((with_reducible show AL _ _ _ _ _); first | (refine AL.step tabs rfl ?_; try dsimp only [len, List.nil_append, List.cons_append]) | refine ym ?_) | refine yn ?_ | refine yc ?_ | refine ya ?_ | refine yf ?_ | refine yh rfl ?_ | refine yg rfl ?_ | (refine yk rfl (fun hc => ?_) (fun hc => ?_) <;> (try simp only [hsx] at hc) <;> (try first | omega | contradiction | (simp [qa] at hc; done))) | refine yo ?_ | refine yd ?_))
  · rw [if_pos hc]; exact RQ.fin rfl rfl rfl
  · rw [if_neg hc]; exact RQ.fin rfl rfl rfl
def sr (s : ByteArray) : List IV := [.str s]
def shortB (l : List ByteArray) : Bool := l.all fun s => decide (s.size ≤ 1024)
theorem qgn (l : List ByteArray) (hl : l.length ≤ 1000000000) : PureC Tryz.prog 144 [.imm (.sl (l.map sr))] (bav (shortB l)) := by
  refine yq tabs Tryz.func144 15 _ rfl rfl rfl rfl rfl ?_
  intro w0 X
  (repeat' (first | ((with_reducible show AL _ _ _ _ _); first | (refine AL.step tabs rfl ?_; try dsimp only [len, List.nil_append, List.cons_append]) | refine ym ?_ | (refine AL.op rfl (yi rfl rfl rfl rfl rfl (by omega) (by omega)) ?_) | (refine AL.op rfl (ye tabs rfl rfl rfl rfl rfl rfl rfl (fun _ => rfl) (by decide) (by omega) (by omega)) ?_)) | fail | refine yn ?_ | refine yc ?_ | refine ya ?_ | refine yf ?_ | refine AW.block ?_ | refine yt ?_ | refine yh rfl ?_ | refine yg rfl ?_ | (refine yk rfl (fun hc => ?_) (fun hc => ?_) <;> (try simp only [hsx] at hc) <;> (try first | omega | contradiction | (simp [qa] at hc; done))) | refine yo ?_ | refine yy ?_ | refine yd ?_ | refine yp ?_ | refine yw ?_ | refine yr ?_ | refine InB.off rfl ?_ | refine yz ?_ | refine yu ?_))
  refine yak (α := Int) (fun i => ⟨[(5, .imm (.sl (l.map sr))), (6, iav (l.map sr).length), (7, iav i)], []⟩) (fun i => 0 ≤ i ∧ i ≤ l.length ∧ shortB (l.take i.toNat) = true) (fun i => (l.length - i).toNat) 0 (yae 0 rfl ⟨rfl, rfl, rfl, trivial⟩ rfl rfl (Nat.zero_le _)) ⟨by omega, by omega, rfl⟩ ?_
  intro i ⟨h0, h1, h2⟩
  (repeat' (first | ((with_reducible show AL _ _ _ _ _); first | (refine AL.step tabs rfl ?_; try dsimp only [len, List.nil_append, List.cons_append]) | refine ym ?_ | (refine AL.op rfl (yi rfl rfl rfl rfl rfl (by omega) (by omega)) ?_) | (refine AL.op rfl (ye tabs rfl rfl rfl rfl rfl rfl rfl (fun _ => rfl) (by decide) (by omega) (by omega)) ?_)) | refine yn ?_ | refine yc ?_ | refine ya ?_ | refine yf ?_ | refine AW.block ?_ | refine yt ?_ | refine yh rfl ?_ | refine yg rfl ?_ | (refine yk rfl (fun hc => ?_) (fun hc => ?_) <;> (try simp only [hsx] at hc) <;> (try first | omega | contradiction | (simp [qa] at hc; done))) | refine yo ?_ | refine yy ?_ | refine yd ?_ | refine yp ?_ | refine yw ?_ | refine yr ?_ | refine InB.off rfl ?_ | refine yz ?_ | refine yu ?_))
  · have e : shortB l = false := by
      unfold shortB
      rw [List.all_eq_false]
      exact ⟨_, qa8 h0 (by assumption), by simp; omega⟩
    rw [e]; exact RQ.fin rfl rfl rfl
  · refine yag (i + 1) (yae 0 rfl ⟨rfl, rfl, rfl, trivial⟩ rfl rfl (Nat.zero_le _)) ⟨by omega, by omega, ?_⟩ (by omega)
    rw [qi h0 (by assumption)]
    unfold shortB at h2 ⊢
    rw [List.all_append, h2]
    simp; omega
  · rw [qq hc] at h2
    rw [h2]; exact RQ.fin rfl rfl rfl
noncomputable def namedB (n : Name) : Bool := !dec (n.lc = es) && shortB [n.sp, n.pf, n.lc] && (dec (n.pf = es) || !dec (n.sp = es))
theorem qi1 (n : Name) : PureC Tryz.prog 175 [n.av] (bav (namedB n)) := by
  refine yq tabs Tryz.func175 26 _ rfl rfl rfl rfl rfl ?_
  intro w0 X
  unfold namedB
  (repeat' (first | ((with_reducible show AL _ _ _ _ _); first | (refine AL.step tabs rfl ?_; try dsimp only [len, List.nil_append, List.cons_append]) | refine AL.op rfl (yas rfl rfl rfl rfl (qgn [n.sp, n.pf, n.lc] (by simp)) rfl rfl) ?_ | refine ym ?_ | (refine yj rfl rfl rfl (fun hc => ?_) (fun hc => ?_) <;> (fail_if_success (exact absurd hc (by decide))) <;> (try simp only [hsx] at hc) <;> (try first | omega | contradiction | (simp [qa] at hc; done)))) | refine yn ?_ | refine yc ?_ | refine ya ?_ | refine yf ?_ | refine yo ?_ | refine yd ?_))
  all_goals (first | exact RQ.fin rfl rfl rfl | exact RQ.fin' rfl rfl rfl | (refine RQ.fin rfl rfl (congrArg bav ?_); simp_all [es, qda, qdq]; done))
def cntB (l : List Int) (h : Int) : Nat := l.countP fun x => x == h
theorem qog (l : List Int) (h : Int) (hl : l.length ≤ 1000000000) : PureC Tryz.prog 146 [.imm (.sl (l.map i64)), iav h] (bav (dec ((cntB l h : Int) = 1))) := by
  refine yq tabs Tryz.func146 22 [.tmp 4] rfl rfl rfl rfl rfl ?_; intro w0 X
  (repeat' (first | ((with_reducible show AL _ _ _ _ _); first | (refine AL.step tabs rfl ?_; try dsimp only [len, List.nil_append, List.cons_append]) | refine ym ?_ | (refine AL.op rfl (yi rfl rfl rfl rfl rfl (by omega) (by omega)) ?_) | (refine AL.op rfl (ye tabs rfl rfl rfl rfl rfl rfl rfl (fun _ => rfl) (by decide) (by omega) (by omega)) ?_)) | fail | refine yn ?_ | refine yc ?_ | refine ya ?_ | refine yf ?_ | refine AW.block ?_ | refine yt ?_ | refine yh rfl ?_ | refine yg rfl ?_ | (refine yk rfl (fun hc => ?_) (fun hc => ?_) <;> (try simp only [hsx] at hc) <;> (try first | omega | contradiction | (simp [qa] at hc; done))) | refine yo ?_ | refine yy ?_ | refine yd ?_ | refine yp ?_ | refine yw ?_ | refine yr ?_ | refine InB.off rfl ?_ | refine yz ?_ | refine yu ?_))
  refine yak (α := Int) (fun i => ⟨[(1, iav h), (5, iav (cntB (l.take i.toNat) h)), (8, .imm (.sl (l.map i64))), (9, iav (l.map i64).length), (10, iav i)], []⟩) (fun i => 0 ≤ i ∧ i ≤ l.length) (fun i => (l.length - i).toNat) 0 (yae 0 rfl ⟨rfl, rfl, rfl, rfl, rfl, trivial⟩ rfl rfl (Nat.zero_le _)) ⟨by omega, by omega⟩ ?_
  intro i ⟨h0, h1⟩
  have hb : cntB (l.take i.toNat) h ≤ l.length := Nat.le_trans List.countP_le_length (by simp; omega)
  (repeat' (first | ((with_reducible show AL _ _ _ _ _); first | (refine AL.step tabs rfl ?_; try dsimp only [len, List.nil_append, List.cons_append]) | refine ym ?_ | (refine AL.op rfl (yi rfl rfl rfl rfl rfl (by omega) (by omega)) ?_) | (refine AL.op rfl (ye tabs rfl rfl rfl rfl rfl rfl rfl (fun _ => rfl) (by decide) (by omega) (by omega)) ?_)) | refine yn ?_ | refine yc ?_ | refine ya ?_ | refine yf ?_ | refine AW.block ?_ | refine yt ?_ | refine yh rfl ?_ | refine yg rfl ?_ | (refine yk rfl (fun hc => ?_) (fun hc => ?_) <;> (try simp only [hsx] at hc) <;> (try first | omega | contradiction | (simp [qa] at hc; done))) | refine yo ?_ | refine yy ?_ | refine yd ?_ | refine yp ?_ | refine yw ?_ | refine yr ?_ | refine InB.off rfl ?_ | refine yz ?_ | refine yu ?_))
  · have e : cntB (l.take (i + 1).toNat) h = cntB (l.take i.toNat) h + 1 := by
      rw [qi h0 (by assumption)]
      unfold cntB
      rw [List.countP_append]
      simp [hc]
    refine yag (i + 1) (yae 0 rfl ⟨rfl, by simp only [e]; rfl, rfl, rfl, rfl, trivial⟩ rfl rfl (Nat.zero_le _)) ⟨by omega, by omega⟩ (by omega)
  · have e : cntB (l.take (i + 1).toNat) h = cntB (l.take i.toNat) h := by
      rw [qi h0 (by assumption)]
      unfold cntB
      rw [List.countP_append]
      simp [hc]
    refine yag (i + 1) (yae 0 rfl ⟨rfl, by simp only [e]; rfl, rfl, rfl, rfl, trivial⟩ rfl rfl (Nat.zero_le _)) ⟨by omega, by omega⟩ (by omega)
  · rw [qq hc]; exact RQ.fin rfl rfl rfl
end Go.Proofs.YtmhejcnaanocpaaGreat.A
