/- The abstract walk, part V: words for holding structs against one another field by field. -/
import Derived.Test.YteijifoobaoclaaGreatAwU
import Derived.Laws.StructEq
namespace Go.Proofs.YteijifoobaoclaaGreat.A
open Go.RowKit
set_option linter.unusedVariables false
set_option linter.unusedSimpArgs false
section
variable {P : Program} {d : Nat} {xs ys : Array Value} {f : Field} {fs : List Field} {a b : Value} {r s : Bool} {w : World}
theorem eqf_last (hn : (f.name == "_") = false) (ha : (part f.type xs f.offset).run P w = .ok a w) (hb : (part f.type ys f.offset).run P w = .ok b w) (he : (Op.equalIn d f.type a b).run P w = .ok r w) : (Op.eqFields d xs ys [f]).run P w = .ok r w := by
  have hn' : f.name ≠ "_" := by simpa using hn
  simp only [Op.eqFields, if_pos hn', Sem.run_bind, ha, hb, he, Result.andThen_ok]
  cases r <;> simp
theorem eqf_cons (hn : (f.name == "_") = false) (ha : (part f.type xs f.offset).run P w = .ok a w) (hb : (part f.type ys f.offset).run P w = .ok b w) (he : (Op.equalIn d f.type a b).run P w = .ok r w) (hr : (Op.eqFields d xs ys fs).run P w = .ok s w) : (Op.eqFields d xs ys (f :: fs)).run P w = .ok (r && s) w := by
  have hn' : f.name ≠ "_" := by simpa using hn
  rw [Op.eqFields]
  simp only [if_pos hn', Sem.run_bind, ha, hb, he, Result.andThen_ok]
  cases r
  · simp
  · simpa using hr
theorem eqA_of {t : TypeId} {fs : Array Field} (hu : P.underlying t = some (.struct fs)) (hp : P.stoodInHeld t = false) (h : (Op.eqFields d xs ys fs.toList).run P w = .ok r w) : (Op.equalIn (d + 1) t (.agg xs) (.agg ys)).run P w = .ok r w := by
  have hf : P.fieldsOf t = fs := by simp [Program.fieldsOf, hu]
  rw [run_equalIn_struct (P := P) w d t xs ys (by rw [hf]; exact hu) hp, hf]
  exact h
theorem eqi_int {t : TypeId} {k' : IntKind} {k : IntKind} {m n : Int} (h : P.underlying t = some (.int k')) : (Op.equalIn (d + 1) t (.int k m) (.int k n)).run P w = .ok (dec (m = n)) w := by
  have e : dec (m = n) = (m == n) := by rw [dec_eq, Bool.eq_iff_iff]; simp
  rw [e]; exact run_equalIn_int w d t k k' m n h
theorem eqi_bool {t : TypeId} {m n : Bool} (h : P.underlying t = some .bool) : (Op.equalIn (d + 1) t (.bool m) (.bool n)).run P w = .ok (m == n) w := run_equalIn_bool' w d t m n h
theorem eqi_str {t : TypeId} {m n : ByteArray} (h : P.underlying t = some .string) : (Op.equalIn (d + 1) t (.string m) (.string n)).run P w = .ok (dec (m = n)) w := by
  rw [dec_eq, ← bytes_eq]; exact run_equalIn_string w d t m n h
theorem part_a {t : TypeId} {i : TI} (h : TOk P t i) (ha : i.isAgg = true) (xs : List Value) (off : Nat) {ys : List Value} (hy : (xs.drop off).take i.sz = ys) : (part t xs.toArray off).run P w = .ok (.agg ys.toArray) w := by
  have := part_agg (n := i.sz) (by rw [← ha]; exact h.isAgg w) (h.sizeOf w) xs off
  rw [hy] at this; exact this
theorem part_1 {t : TypeId} {i : TI} (h : TOk P t i) (ha : i.isAgg = false) (xs : List Value) (off : Nat) {y : Value} (hy : xs[off]? = some y) : (part t xs.toArray off).run P w = .ok y w :=
  part_one (by rw [← ha]; exact h.isAgg w) xs off hy
end
theorem equal_at {P : Program} {t : TypeId} {x y : Value} {w : World} {r : Result Bool} (k d : Nat) (h : k + d = 10000) (hr : (Op.equalIn (k + d) t x y).run P w = r) : (Op.equal t x y).run P w = r := by
  rw [h] at hr
  exact hr
theorem c_int {M : Mm} {k : IntKind} {n : Int} {l : List AV} {xs : List Value} (h : All2 (RepA M) (.imm (.int k n) :: l) xs) : ∃ r, xs = .int k n :: r ∧ All2 (RepA M) l r := by
  cases h with
  | cons h1 h2 => cases h1 with
    | imm _ _ h1 => cases h1; exact ⟨_, rfl, h2⟩
theorem c_str {M : Mm} {n : ByteArray} {l : List AV} {xs : List Value} (h : All2 (RepA M) (.imm (.str n) :: l) xs) : ∃ r, xs = .string n :: r ∧ All2 (RepA M) l r := by
  cases h with
  | cons h1 h2 => cases h1 with
    | imm _ _ h1 => cases h1; exact ⟨_, rfl, h2⟩
theorem c_bool {M : Mm} {n : Bool} {l : List AV} {xs : List Value} (h : All2 (RepA M) (.imm (.bool n) :: l) xs) : ∃ r, xs = .bool n :: r ∧ All2 (RepA M) l r := by
  cases h with
  | cons h1 h2 => cases h1 with
    | imm _ _ h1 => cases h1; exact ⟨_, rfl, h2⟩
theorem c_nil {M : Mm} {xs : List Value} (h : All2 (RepA M) [] xs) : xs = [] := by cases h; rfl
end Go.Proofs.YteijifoobaoclaaGreat.A
