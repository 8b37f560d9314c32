/- The abstract walk, part A: values without addresses, and how they lie in a world's memory. -/
import Derived.Tactics
import Derived.WalkKit
import Derived.Below
import Derived.DataElems
import Derived.KernelRfl
import Derived.Laws.IdiomCopy
import Derived.Laws.OwnMore
import Derived.Maps.AppendAt
import Derived.Deep.LoopGhost
namespace Go.Proofs.YtjjdabihnmilgaaGreat.A
open Go.RowKit
set_option linter.unusedVariables false
set_option linter.unusedSimpArgs false

inductive All2 {α β : Type} (R : α → β → Prop) : List α → List β → Prop
  | nil : All2 R [] []
  | cons {a b l m} : R a b → All2 R l m → All2 R (a :: l) (b :: m)
namespace All2
variable {α β : Type} {R : α → β → Prop}
theorem length {l : List α} {m : List β} (h : All2 R l m) : l.length = m.length := by
  induction h with
  | nil => rfl
  | cons _ _ ih => simp [ih]
theorem get {l : List α} {m : List β} (h : All2 R l m) : ∀ {i : Nat} {a : α}, l[i]? = some a → ∃ b, m[i]? = some b ∧ R a b := by
  induction h with
  | nil => intro i a h; simp at h
  | cons h1 _ ih =>
    intro i a h
    cases i with
    | zero => simp at h; subst h; exact ⟨_, rfl, h1⟩
    | succ i => simp at h; simpa using ih h
theorem get' {l : List α} {m : List β} (h : All2 R l m) : ∀ {i : Nat} {b : β}, m[i]? = some b → ∃ a, l[i]? = some a ∧ R a b := by
  induction h with
  | nil => intro i a h; simp at h
  | cons h1 _ ih =>
    intro i a h
    cases i with
    | zero => simp at h; subst h; exact ⟨_, rfl, h1⟩
    | succ i => simp at h; simpa using ih h
theorem append {l l' : List α} {m m' : List β} (h : All2 R l m) (h' : All2 R l' m') : All2 R (l ++ l') (m ++ m') := by
  induction h with
  | nil => exact h'
  | cons h1 _ ih => exact .cons h1 ih
theorem take {l : List α} {m : List β} (h : All2 R l m) : ∀ n, All2 R (l.take n) (m.take n) := by
  induction h with
  | nil => intro n; simpa using All2.nil
  | cons h1 _ ih =>
    intro n
    cases n with
    | zero => exact .nil
    | succ n => exact .cons h1 (ih n)
theorem drop {l : List α} {m : List β} (h : All2 R l m) : ∀ n, All2 R (l.drop n) (m.drop n) := by
  induction h with
  | nil => intro n; simpa using All2.nil
  | cons h1 h2 ih =>
    intro n
    cases n with
    | zero => exact .cons h1 h2
    | succ n => exact ih n
theorem mono {S : α → β → Prop} {l : List α} {m : List β} (h : All2 R l m) (hs : ∀ a b, R a b → S a b) : All2 S l m := by
  induction h with
  | nil => exact .nil
  | cons h1 _ ih => exact .cons (hs _ _ h1) ih
theorem mono_mem {S : α → β → Prop} {l : List α} {m : List β} (h : All2 R l m) (hs : ∀ a b, a ∈ l → b ∈ m → R a b → S a b) : All2 S l m := by
  induction h with
  | nil => exact .nil
  | cons h1 _ ih => exact .cons (hs _ _ (by simp) (by simp) h1) (ih fun a b ha hb => hs a b (by simp [ha]) (by simp [hb]))
theorem set {l : List α} {m : List β} (h : All2 R l m) {a : α} {b : β} (hab : R a b) : ∀ i, All2 R (l.set i a) (m.set i b) := by
  induction h with
  | nil => intro i; simpa using All2.nil
  | cons h1 h2 ih =>
    intro i
    cases i with
    | zero => exact .cons hab h2
    | succ i => exact .cons h1 (ih i)
theorem replicate {a : α} {b : β} (h : R a b) : ∀ n, All2 R (List.replicate n a) (List.replicate n b)
  | 0 => .nil
  | n + 1 => .cons h (replicate h n)
theorem split {l l' : List α} : ∀ {m : List β}, All2 R (l ++ l') m → All2 R l (m.take l.length) ∧ All2 R l' (m.drop l.length) := by
  induction l with
  | nil => intro m h; exact ⟨by simpa using All2.nil, by simpa using h⟩
  | cons a l ih =>
    intro m h
    cases h with
    | cons h1 h2 =>
      obtain ⟨k1, k2⟩ := ih h2
      exact ⟨by simpa using All2.cons h1 k1, by simpa using k2⟩
end All2

/-- Values without addresses: what will not be written any more. -/
inductive IV where
  | int (k : IntKind) (n : Int)
  | bool (b : Bool)
  | str (s : ByteArray)
  | sl (rows : List (List IV))
  | nilp
  | nilf
  | fn (f : Nat)
  | any
  deriving Inhabited

def CellsAt (W : World) (ad : Addr) (ys : List Value) : Prop := ∀ i y, ys[i]? = some y → W.cell? (ad.add i) = some y

def notMap : Value → Bool
  | .map _ => false
  | _ => true
inductive RepI (W : World) (N : Nat → Prop) : IV → Value → Prop
  | int (k : IntKind) (n : Int) : RepI W N (.int k n) (.int k n)
  | bool (b : Bool) : RepI W N (.bool b) (.bool b)
  | str (s : ByteArray) : RepI W N (.str s) (.string s)
  | nil (A : Option Addr) (c : Nat) : RepI W N (.sl []) (.slice A 0 c)
  | sl (rows : List (List IV)) (ad : Addr) (n c sz : Nat) (ys : List Value) (h0 : rows ≠ []) (hsz : 0 < sz) (hn : n = rows.length) (hc : n ≤ c) (hb : ¬ N ad.block) (hr : ∀ r ∈ rows, r.length = sz)
      (hy : CellsAt W ad ys) (hrep : All2 (RepI W N) rows.flatten ys) : RepI W N (.sl rows) (.slice (some ad) n c)
  | nilp : RepI W N .nilp (.pointer none)
  | nilf : RepI W N .nilf .nilFunc
  | fn (f : Nat) : RepI W N (.fn f) (.func (.func f) #[] #[])
  | any (x : Value) (h1 : x.oneCell' = true) (h2 : x.cells = #[x]) (h3 : notMap x = true) : RepI W N .any x

theorem cell_block {W : World} {ad : Addr} {y : Value} (h : W.cell? ad = some y) : ∃ o, W.heap[ad.block]? = some o := by
  unfold World.cell? at h
  split at h
  · rename_i hb; exact ⟨_, hb⟩
  · cases h
theorem add_block (ad : Addr) (i : Nat) : (ad.add i).block = ad.block := by unfold Addr.add; split <;> rfl
theorem CellsAt.keep {W W' : World} {ad : Addr} {ys : List Value} (h : CellsAt W ad ys) (hk : (∃ o, W.heap[ad.block]? = some o) → W'.heap[ad.block]? = W.heap[ad.block]?) : CellsAt W' ad ys := by
  intro i y hy
  have h1 := h i y hy
  obtain ⟨o, ho⟩ := cell_block h1
  rw [add_block] at ho
  rw [World.cell?_of_block (w := W) (by rw [add_block]; exact hk ⟨o, ho⟩)]
  exact h1
theorem CellsAt.block {W : World} {ad : Addr} {ys : List Value} (h : CellsAt W ad ys) (h0 : ys ≠ []) : ∃ o, W.heap[ad.block]? = some o := by
  cases ys with
  | nil => exact absurd rfl h0
  | cons y r =>
    obtain ⟨o, ho⟩ := cell_block (h 0 y rfl)
    rw [add_block] at ho
    exact ⟨o, ho⟩
theorem flatten_ne {α : Type} {rows : List (List α)} {sz : Nat} (h0 : rows ≠ []) (hsz : 0 < sz) (hr : ∀ r ∈ rows, r.length = sz) : rows.flatten ≠ [] := by
  cases rows with
  | nil => exact absurd rfl h0
  | cons r l =>
    have := hr r (by simp)
    intro e
    simp at e
    rw [e.1] at this
    simp at this
    omega
/-- what does not touch its cells leaves it as it is. -/
theorem RepI.keep {W W' : World} {N N' : Nat → Prop} (hk : ∀ b, ¬ N b → (∃ o, W.heap[b]? = some o) → W'.heap[b]? = W.heap[b]? ∧ ¬ N' b) {v : IV} {x : Value} (h : RepI W N v x) : RepI W' N' v x := by
  refine RepI.rec (motive_1 := fun v x _ => RepI W' N' v x) (motive_2 := fun vs xs _ => All2 (RepI W' N') vs xs) (fun k n => .int k n) (fun b => .bool b) (fun s => .str s) (fun A c => .nil A c) ?_ .nilp .nilf (fun f => .fn f) (fun x h1 h2 h3 => .any x h1 h2 h3) .nil (fun _ _ h1 h2 => .cons h1 h2) h
  intro rows ad n c sz ys h0 hsz hn hc hb hr hy hrep ih
  have hne : ys ≠ [] := by
    intro e
    have := hrep.length
    rw [e] at this
    exact flatten_ne h0 hsz hr (List.length_eq_zero_iff.1 (by simpa using this))
  have := hk ad.block hb (hy.block hne)
  exact .sl rows ad n c sz ys h0 hsz hn hc this.2 hr (hy.keep fun _ => this.1) ih
/-- one that fits in a cell. -/
theorem RepI.one {W : World} {N : Nat → Prop} {v : IV} {x : Value} (h : RepI W N v x) : x.oneCell' = true := by cases h <;> first | rfl | assumption
theorem RepI.not_agg {W : World} {N : Nat → Prop} {v : IV} {x : Value} (h : RepI W N v x) : x.cells = #[x] := by cases h <;> first | rfl | assumption
theorem RepI.notMap {W : World} {N : Nat → Prop} {v : IV} {x : Value} (h : RepI W N v x) : A.notMap x = true := by cases h <;> first | rfl | assumption
theorem RepI.int_inv {W : World} {N : Nat → Prop} {k : IntKind} {n : Int} {x : Value} (h : RepI W N (.int k n) x) : x = .int k n := by cases h; rfl
theorem RepI.bool_inv {W : World} {N : Nat → Prop} {b : Bool} {x : Value} (h : RepI W N (.bool b) x) : x = .bool b := by cases h; rfl
theorem RepI.str_inv {W : World} {N : Nat → Prop} {s : ByteArray} {x : Value} (h : RepI W N (.str s) x) : x = .string s := by cases h; rfl
theorem RepI.sl_inv {W : World} {N : Nat → Prop} {rows : List (List IV)} {x : Value} (h : RepI W N (.sl rows) x) : ∃ A c, x = .slice A rows.length c ∧ rows.length ≤ c := by
  cases h with
  | nil A c => exact ⟨A, c, rfl, Nat.zero_le _⟩
  | sl _ ad n c sz ys h0 hsz hn hc hb hr hy hrep => subst hn; exact ⟨some ad, c, rfl, hc⟩
/-- Cells as one value. -/
def pkv : List Value → Value
  | [x] => x
  | l => .agg l.toArray
/-- Block g is a map with these entries, in the order in which they came. -/
structure MapAt (W : World) (N : Nat → Prop) (g : Nat) (ks vs : List (List IV)) : Prop where
  out : ¬ N g
  at_ : ∃ (es : Array MapEntry) (xs ys : List (List Value)), W.heap[g]? = some (.map es es.size) ∧ es.toList.map (·.key) = xs.map pkv ∧ es.toList.map (·.val) = ys.map pkv ∧ es.toList.map (·.born) = List.range es.size ∧ All2 (All2 (RepI W N)) ks xs ∧ All2 (All2 (RepI W N)) vs ys
theorem MapAt.keep {W W' : World} {N N' : Nat → Prop} (hk : ∀ b, ¬ N b → (∃ o, W.heap[b]? = some o) → W'.heap[b]? = W.heap[b]? ∧ ¬ N' b) {g : Nat} {ks vs : List (List IV)} (h : MapAt W N g ks vs) : MapAt W' N' g ks vs := by
  obtain ⟨h0, es, xs, ys, h1, h2, h3, h4, h5, h6⟩ := h
  obtain ⟨e1, e2⟩ := hk g h0 ⟨_, h1⟩
  exact ⟨e2, es, xs, ys, e1.trans h1, h2, h3, h4, h5.mono fun _ _ h => h.mono fun _ _ h => h.keep hk, h6.mono fun _ _ h => h.mono fun _ _ h => h.keep hk⟩
end Go.Proofs.YtjjdabihnmilgaaGreat.A
namespace Go.Proofs.YtjjdabihnmilgaaGreat.A
open Go.RowKit
set_option linter.unusedVariables false
set_option linter.unusedSimpArgs false

inductive AV where
  | imm (v : IV)
  | agg (l : List AV)
  | tup (l : List AV)
  | nils
  | nocap
  | ptr (id ver row off : Nat)
  | os (id n : Nat)
  | sub (id ver off n : Nat)
  | pin (l : List IV)
  | fn (f : Nat) (caps : List AV)
  | undef
  | mp (g : Nat) (ks vs : List (List IV))
  | mpi (ks vs : List (List IV))
  deriving Inhabited
def AV.cell : AV → Bool
  | .agg _ => false
  | .tup _ => false
  | .undef => false
  | .mp _ _ _ => false
  | .mpi _ _ => false
  | _ => true
/-- A row of own elements: each of sz cells. -/
structure Blk where
  ty : TypeId
  sz : Nat
  rows : List (List AV)
structure Mm where
  W : World
  N : Nat → Prop
  γ : Nat → Option Nat
  κ : Nat → Nat
  hp : List Blk
inductive RepA (M : Mm) : AV → Value → Prop
  | imm (v : IV) (x : Value) (h : RepI M.W M.N v x) : RepA M (.imm v) x
  | agg (l : List AV) (xs : List Value) (h : All2 (RepA M) l xs) : RepA M (.agg l) (.agg xs.toArray)
  | tup (l : List AV) (xs : List Value) (h : All2 (RepA M) l xs) : RepA M (.tup l) (.tuple xs.toArray)
  | nils : RepA M .nils (.slice none 0 0)
  | nocap (A : Option Addr) : RepA M .nocap (.slice A 0 0)
  | ptr (id ver row off : Nat) (b : Blk) (q : Option Addr) (hb : M.hp[id]? = some b) (hv : ver ≤ b.rows.length) (hx : ver = b.rows.length → ∃ g, M.γ id = some g ∧ q = some ⟨g, row * b.sz + off, none⟩) : RepA M (.ptr id ver row off) (.pointer q)
  | os (id n : Nat) (b : Blk) (A : Option Addr) (k c : Nat) (hb : M.hp[id]? = some b) (hv : n ≤ b.rows.length) (hx : n = b.rows.length → A = (M.γ id).map (fun g => ⟨g, 0, none⟩) ∧ k = n ∧ c = M.κ id) : RepA M (.os id n) (.slice A k c)
  | sub (id ver off n : Nat) (b : Blk) (A : Option Addr) (c : Nat) (hb : M.hp[id]? = some b) (hv : ver ≤ b.rows.length) (hx : ver = b.rows.length → off + n ≤ ver ∧ (0 < n → ∃ g, M.γ id = some g ∧ A = some ⟨g, off * b.sz, none⟩)) (hc : n ≤ c) : RepA M (.sub id ver off n) (.slice A n c)
  | pin (l : List IV) (ad : Addr) (ys : List Value) (h0 : l ≠ []) (hb : ¬ M.N ad.block) (hy : CellsAt M.W ad ys) (h : All2 (RepI M.W M.N) l ys) : RepA M (.pin l) (.pointer (some ad))
  | fn (f : Nat) (caps : List AV) (xs : List Value) (h : All2 (RepA M) caps xs) : RepA M (.fn f caps) (.func (.func f) #[] xs.toArray)
  | undef : RepA M .undef undef
  | mp (g : Nat) (ks vs : List (List IV)) (h : MapAt M.W M.N g ks vs) : RepA M (.mp g ks vs) (.map (some g))
  | mpi (g : Nat) (ks vs : List (List IV)) (h : MapAt M.W M.N g ks vs) : RepA M (.mpi ks vs) (.map (some g))
theorem RepA.one {M : Mm} {v : AV} {x : Value} (h : RepA M v x) (hc : v.cell = true) : x.oneCell' = true := by
  cases h <;> first | rfl | (simp [AV.cell] at hc; done) | (rename_i h; exact h.one)
theorem RepA.single {M : Mm} {v : AV} {x : Value} (h : RepA M v x) (hc : v.cell = true) : x.cells = #[x] := by
  cases h <;> first | rfl | (simp [AV.cell] at hc; done) | (rename_i h; exact h.not_agg)
theorem RepA.notMap {M : Mm} {v : AV} {x : Value} (h : RepA M v x) (hc : v.cell = true) : A.notMap x = true := by
  cases h <;> first
    | rfl
    | (simp [AV.cell] at hc; done)
    | (rename_i h; exact h.notMap)
structure Keep (M M' : Mm) : Prop where
  imm : ∀ b, ¬ M.N b → (∃ o, M.W.heap[b]? = some o) → M'.W.heap[b]? = M.W.heap[b]? ∧ ¬ M'.N b
  blk : ∀ id b, M.hp[id]? = some b → ∃ b', M'.hp[id]? = some b' ∧ b'.sz = b.sz ∧ b.rows.length ≤ b'.rows.length ∧ (b.rows.length = b'.rows.length → M'.γ id = M.γ id ∧ M'.κ id = M.κ id)
theorem RepA.keep {M M' : Mm} (hk : Keep M M') {v : AV} {x : Value} (h : RepA M v x) : RepA M' v x := by
  refine RepA.rec (motive_1 := fun v x _ => RepA M' v x) (motive_2 := fun vs xs _ => All2 (RepA M') vs xs) ?_ (fun l xs _ h => .agg l xs h) (fun l xs _ h => .tup l xs h) .nils (fun A => .nocap A) ?_ ?_ ?_ ?_ (fun f caps xs _ h => .fn f caps xs h) .undef (fun g ks vs h => .mp g ks vs (h.keep hk.imm)) (fun g ks vs h => .mpi g ks vs (h.keep hk.imm)) .nil (fun _ _ h1 h2 => .cons h1 h2) h
  · intro v x h; exact .imm v x (h.keep hk.imm)
  · intro id ver row off b q hb hv hx
    obtain ⟨b', e1, e2, e3, e4⟩ := hk.blk id b hb
    refine .ptr id ver row off b' q e1 (Nat.le_trans hv e3) fun hver => ?_
    have h1 : ver = b.rows.length := by omega
    obtain ⟨e5, e6⟩ := e4 (by omega)
    obtain ⟨g, hg, hq⟩ := hx h1
    exact ⟨g, by rw [e5]; exact hg, by rw [e2]; exact hq⟩
  · intro id n b A k c hb hv hx
    obtain ⟨b', e1, e2, e3, e4⟩ := hk.blk id b hb
    refine .os id n b' A k c e1 (Nat.le_trans hv e3) fun hver => ?_
    have h1 : n = b.rows.length := by omega
    obtain ⟨e5, e6⟩ := e4 (by omega)
    obtain ⟨h2, h3, h4⟩ := hx h1
    exact ⟨by rw [e5]; exact h2, h3, by rw [e6]; exact h4⟩
  · intro id ver off n b A c hb hv hx hc
    obtain ⟨b', e1, e2, e3, e4⟩ := hk.blk id b hb
    refine .sub id ver off n b' A c e1 (Nat.le_trans hv e3) (fun hver => ?_) hc
    have h1 : ver = b.rows.length := by omega
    obtain ⟨e5, e6⟩ := e4 (by omega)
    obtain ⟨h2, h3⟩ := hx h1
    refine ⟨h2, fun hn => ?_⟩
    obtain ⟨g, hg, hA⟩ := h3 hn
    exact ⟨g, by rw [e5]; exact hg, by rw [e2]; exact hA⟩
  · intro l ad ys h0 hb hy h
    have hne : ys ≠ [] := by
      intro e
      have := h.length
      rw [e] at this
      exact h0 (List.length_eq_zero_iff.1 (by simpa using this))
    have := hk.imm ad.block hb (hy.block hne)
    exact .pin l ad ys h0 this.2 (hy.keep fun _ => this.1) (h.mono fun _ _ h => h.keep hk.imm)
/-- An own block is in memory as it should be. -/
structure BlkOK (M : Mm) (id : Nat) (b : Blk) : Prop where
  pos : 0 < b.sz
  rows : ∀ r ∈ b.rows, r.length = b.sz
  cell : ∀ c ∈ b.rows.flatten, c.cell = true
  cap : b.rows.length ≤ M.κ id
  capm : M.κ id ≤ maxLen
  mem : (M.γ id = none ∧ b.rows = [] ∧ M.κ id = 0) ∨ ∃ g ys sp, M.γ id = some g ∧ M.W.heap[g]? = some (.cells (ys ++ sp).toArray b.ty (0, 0)) ∧ (ys ++ sp).length = M.κ id * b.sz ∧ All2 (RepA M) b.rows.flatten ys

def get : List (Nat × AV) → Nat → Option AV
  | [], _ => none
  | (d, v) :: r, t => match Nat.beq d t with | true => some v | false => get r t
structure St where
  env : List (Nat × AV)
  hp : List Blk
structure Cx where
  P : Program
  X : Nat → Prop
  hp0 : List Blk
  γ0 : Nat → Option Nat
  κ0 : Nat → Nat
  may : Nat → Prop
  w0 : World
  nt : Nat
def nset (X : Nat → Prop) (γ : Nat → Option Nat) (n : Nat) (b : Nat) : Prop := X b ∨ ∃ id, id < n ∧ γ id = some b
def St.mm (s : St) (C : Cx) (γ : Nat → Option Nat) (κ : Nat → Nat) (W : World) : Mm := ⟨W, nset C.X γ s.hp.length, γ, κ, s.hp⟩
/-- The blocks that the call was lent are there; those that haven't grown lie where they lay. -/
def LentP (C : Cx) (hp : List Blk) (γ : Nat → Option Nat) (κ : Nat → Nat) : Prop :=
  ∀ i b0, C.hp0[i]? = some b0 → ∃ b, hp[i]? = some b ∧ b.sz = b0.sz ∧ b0.rows.length ≤ b.rows.length ∧ (b0.rows.length = b.rows.length → γ i = C.γ0 i ∧ κ i = C.κ0 i)
theorem LentP.keep {C : Cx} {s s' : St} {γ γ' : Nat → Option Nat} {κ κ' : Nat → Nat} {W W' : World} (h : LentP C s.hp γ κ) (hk : Keep (s.mm C γ κ W) (s'.mm C γ' κ' W')) : LentP C s'.hp γ' κ' := by
  intro i b0 hb0
  obtain ⟨b, h1, h2, h3, h4⟩ := h i b0 hb0
  obtain ⟨b', k1, k2, k3, k4⟩ := hk.blk i b h1
  refine ⟨b', k1, k2.trans h2, Nat.le_trans h3 k3, fun e => ?_⟩
  obtain ⟨e1, e2⟩ := h4 (by omega)
  obtain ⟨e3, e4⟩ := k4 (by omega)
  exact ⟨Eq.trans e3 e1, Eq.trans e4 e2⟩
structure Conc (C : Cx) (s : St) (γ : Nat → Option Nat) (κ : Nat → Nat) (a : Act) (W : World) : Prop where
  size : a.tmps.size = C.nt
  defers : a.defers = []
  env : ∀ t v, get s.env t = some v → ∃ x, a.tmps[t]? = some x ∧ RepA (s.mm C γ κ W) v x
  blk : ∀ id b, s.hp[id]? = some b → BlkOK (s.mm C γ κ W) id b
  inj : ∀ i j g, i < s.hp.length → j < s.hp.length → γ i = some g → γ j = some g → i = j
  own : ∀ id g, id < s.hp.length → γ id = some g → ¬ C.X g ∧ (C.w0.heap.size ≤ g ∨ C.may g)
  xlt : ∀ b, C.X b → b < C.w0.heap.size
  old : ∀ b, b < C.w0.heap.size → ¬ C.may b → W.heap[b]? = C.w0.heap[b]?
  hos : W.os = C.w0.os
  htape : W.tape = C.w0.tape
  hout : W.output = C.w0.output
  hsize : C.w0.heap.size ≤ W.heap.size
  lent : LentP C s.hp γ κ
def CQ (C : Cx) (Q : Exit → St → Prop) : Exit → Act → World → Prop := fun e a W => ∃ s γ κ, Conc C s γ κ a W ∧ Q e s
def AW (C : Cx) (c : Code) (Q : Exit → St → Prop) (s : St) : Prop := ∀ γ κ a W, Conc C s γ κ a W → c.wp C.P (CQ C Q) a W
def AL (C : Cx) (l : List Oper) (Q : Exit → St → Prop) (rest : List Oper) (s : St) : Prop := ∀ γ κ a W, Conc C s γ κ a W → wpList C.P l.toArray (CQ C Q) rest a W
def Then (n : St → Prop) (Q : Exit → St → Prop) : Exit → St → Prop
  | .normal, s => n s
  | e, s => Q e s
def InB (id : Nat) (Q : Exit → St → Prop) : Exit → St → Prop
  | .exit i, s => if i = id then Q .normal s else Q (.exit i) s
  | e, s => Q e s
section
variable {C : Cx} {Q : Exit → St → Prop} {s : St}
theorem AW.mono {c : Code} {Q' : Exit → St → Prop} (h : AW C c Q s) (hq : ∀ e s, Q e s → Q' e s) : AW C c Q' s :=
  fun γ κ a W hC => wp_mono (h γ κ a W hC) fun e a W ⟨s, γ, κ, h1, h2⟩ => ⟨s, γ, κ, h1, hq _ _ h2⟩
theorem AW.seq {x y : Code} (h : AW C x (Then (AW C y Q) Q) s) : AW C (.seq x y) Q s := by
  intro γ κ a W hC
  refine wp_seq (wp_mono (h γ κ a W hC) fun e a W ⟨s, γ, κ, h1, h2⟩ => ?_)
  cases e with
  | normal => exact h2 γ κ a W h1
  | _ => exact ⟨s, γ, κ, h1, h2⟩
theorem AW.skip (h : Q .normal s) : AW C .skip Q s := fun γ κ a W hC => wp_skip ⟨s, γ, κ, hC, h⟩
theorem AW.exit {id : Nat} (h : Q (.exit id) s) : AW C (.exit id) Q s := fun γ κ a W hC => wp_exit ⟨s, γ, κ, hC, h⟩
theorem AW.ret (h : Q .ret s) : AW C .ret Q s := fun γ κ a W hC => wp_ret ⟨s, γ, κ, hC, h⟩
theorem AW.block {id : Nat} {c : Code} (h : AW C c (InB id Q) s) : AW C (.block id c) Q s := by
  intro γ κ a W hC
  refine wp_block (wp_mono (h γ κ a W hC) fun e a W ⟨s, γ, κ, h1, h2⟩ => ?_)
  cases e with
  | exit i =>
    simp only [Exit.inBlock]
    simp only [InB] at h2
    split
    · rename_i e; rw [if_pos e] at h2; exact ⟨s, γ, κ, h1, h2⟩
    · rename_i e; rw [if_neg e] at h2; exact ⟨s, γ, κ, h1, h2⟩
  | _ => exact ⟨s, γ, κ, h1, h2⟩
theorem AW.region {id : Nat} {l : List Oper} (h : AL C l Q l s) : AW C (.region id l.toArray false) Q s :=
  fun γ κ a W hC => wp_region_list (by simpa using h γ κ a W hC)
theorem AL.nil {l : List Oper} (h : Q .normal s) : AL C l Q [] s := fun γ κ a W hC => wpList_nil ⟨s, γ, κ, hC, h⟩
theorem Then.norm {n : St → Prop} (h : n s) : Then n Q .normal s := h
theorem Then.ret {n : St → Prop} (h : Q .ret s) : Then n Q .ret s := h
theorem Then.exit {n : St → Prop} {id : Nat} (h : Q (.exit id) s) : Then n Q (.exit id) s := h
theorem InB.norm {id : Nat} (h : Q .normal s) : InB id Q .normal s := h
theorem InB.ret {id : Nat} (h : Q .ret s) : InB id Q .ret s := h
theorem InB.here {id : Nat} (h : Q .normal s) : InB id Q (.exit id) s := by unfold InB; simpa using h
theorem InB.off {id i : Nat} (hi : Nat.beq i id = false) (h : Q (.exit i) s) : InB id Q (.exit i) s := by
  have : i ≠ id := fun e => by subst e; simp at hi
  unfold InB; simpa [this] using h

def St.ev (s : St) : Operand → Option AV
  | .tmp t => get s.env t
  | .const (.int k n) => some (.imm (.int k n))
  | .const (.bool b) => some (.imm (.bool b))
  | .const (.string t) => some (.imm (.str t))
  | .const (.slice none 0 0) => some .nils
  | .const (.pointer none) => some (.imm .nilp)
  | .const .nilFunc => some (.imm .nilf)
  | .func f => some (.imm (.fn f))
  | _ => none
theorem Conc.ev {γ : Nat → Option Nat} {κ : Nat → Nat} {a : Act} {W : World} (hC : Conc C s γ κ a W) {x : Operand} {v : AV} (h : s.ev x = some v) : RepA (s.mm C γ κ W) v (a.eval x) := by
  unfold St.ev at h
  split at h
  · obtain ⟨x, h1, h2⟩ := hC.env _ _ h
    show RepA _ _ (a.tmps.getD _ undef)
    rw [Array.getD_eq_getD_getElem?, h1]
    exact h2
  all_goals first | (cases h; done) | (obtain rfl := Option.some.inj h; first | exact .imm _ _ (.int _ _) | exact .imm _ _ (.bool _) | exact .imm _ _ (.str _) | exact .nils | exact .imm _ _ .nilp | exact .imm _ _ .nilf | exact .imm _ _ (.fn _))
theorem AW.cond {c : Operand} {x y : Code} {b : Bool} (hc : s.ev c = some (.imm (.bool b))) (h1 : b = true → AW C x Q s) (h2 : b = false → AW C y Q s) : AW C (.cond c x y) Q s := by
  intro γ κ a W hC
  have h := hC.ev hc
  cases h with
  | imm v x h =>
    have := h.bool_inv
    exact wp_cond_split (t := b) this (fun e => h1 e γ κ a W hC) (fun e => h2 e γ κ a W hC)
/-- s says no less than s1. -/
def Le (C : Cx) (s s1 : St) : Prop := ∀ γ κ a W, Conc C s γ κ a W → ∃ γ' κ', Conc C s1 γ' κ' a W
theorem Le.refl (C : Cx) (s : St) : Le C s s := fun γ κ a W h => ⟨γ, κ, h⟩
theorem AW.weak {c : Code} {s1 : St} (hle : Le C s s1) (h : AW C c Q s1) : AW C c Q s :=
  fun γ κ a W hC => let ⟨γ', κ', h'⟩ := hle γ κ a W hC; h γ' κ' a W h'
theorem AL.weak {l rest : List Oper} {s1 : St} (hle : Le C s s1) (h : AL C l Q rest s1) : AL C l Q rest s :=
  fun γ κ a W hC => let ⟨γ', κ', h'⟩ := hle γ κ a W hC; h γ' κ' a W h'
/-- A loop: at its head the state is mk x, of an x with Inv; a round comes to another one of lesser measure, or leaves. -/
def Rnd (C : Cx) {α : Type} (mk : α → St) (Inv : α → Prop) (μ : α → Nat) (Q : Exit → St → Prop) (m : Nat) : Exit → St → Prop
  | .normal, s => ∃ y, Le C s (mk y) ∧ Inv y ∧ μ y < m
  | e, s => Q e s
theorem Rnd.norm {α : Type} {mk : α → St} {Inv : α → Prop} {μ : α → Nat} {m : Nat} (y : α) (h1 : Le C s (mk y)) (h2 : Inv y) (h3 : μ y < m) : Rnd C mk Inv μ Q m .normal s := ⟨y, h1, h2, h3⟩
theorem Rnd.ret {α : Type} {mk : α → St} {Inv : α → Prop} {μ : α → Nat} {m : Nat} (h : Q .ret s) : Rnd C mk Inv μ Q m .ret s := h
theorem Rnd.exit {α : Type} {mk : α → St} {Inv : α → Prop} {μ : α → Nat} {m : Nat} {id : Nat} (h : Q (.exit id) s) : Rnd C mk Inv μ Q m (.exit id) s := h
theorem AW.loop {α : Type} {body : Code} (mk : α → St) (Inv : α → Prop) (μ : α → Nat) (x0 : α) (hle : Le C s (mk x0)) (h0 : Inv x0)
    (round : ∀ x, Inv x → AW C body (Rnd C mk Inv μ Q (μ x)) (mk x)) : AW C (.loop body) Q s := by
  intro γ κ a W hC
  have key : ∀ n : Nat, ∀ x, μ x = n → Inv x → ∀ γ κ a W, Conc C (mk x) γ κ a W → (Code.loop body).wp C.P (CQ C Q) a W := by
    intro n x _ hI γ κ a W hC
    let J : Nat → Act → World → Prop := fun m a W => ∃ x γ κ, Inv x ∧ μ x = m ∧ Conc C (mk x) γ κ a W
    refine wp_loop_ghost J (μ x) ⟨x, γ, κ, hI, rfl, hC⟩ ?_
    intro m a W hJ
    obtain ⟨x, γ, κ, hI, hm, hC⟩ := hJ
    refine wp_mono (round x hI γ κ a W hC) ?_
    rintro e a' W' ⟨s', γ', κ', hC', hR⟩
    cases e with
    | normal =>
      obtain ⟨y, hle, hIy, hlt⟩ := hR
      obtain ⟨γ2, κ2, hC2⟩ := hle _ _ _ _ hC'
      exact ⟨μ y, by omega, y, γ2, κ2, hIy, rfl, hC2⟩
    | _ => exact ⟨s', γ', κ', hC', hR⟩
  obtain ⟨γ', κ', hC'⟩ := hle γ κ a W hC
  exact key _ x0 rfl h0 γ' κ' a W hC'
end
end Go.Proofs.YtjjdabihnmilgaaGreat.A
namespace Go.Proofs.YtjjdabihnmilgaaGreat.A
open Go.RowKit
set_option linter.unusedVariables false
set_option linter.unusedSimpArgs false

theorem blk_cell {W : World} {g : Nat} {c : Array Value} {ty : TypeId} {f : Nat × Nat} (h : W.heap[g]? = some (.cells c ty f)) (o : Nat) : W.cell? ⟨g, o, none⟩ = c[o]? := by
  unfold World.cell?; rw [h]; rfl
theorem blk_frozen {W : World} {g : Nat} {c : Array Value} {ty : TypeId} (h : W.heap[g]? = some (.cells c ty (0, 0))) (o : Nat) : W.frozen? ⟨g, o, none⟩ = false := by
  unfold World.frozen?; rw [h]; simp
theorem blk_lt {W : World} {g : Nat} {o : Obj} (h : W.heap[g]? = some o) : g < W.heap.size := by
  rcases Nat.lt_or_ge g W.heap.size with h1 | h1
  · exact h1
  · rw [Array.getElem?_eq_none h1] at h; cases h
theorem heap_alloc_new (W : World) (o : Obj) : (W.alloc o).heap[W.heap.size]? = some o := by
  show (W.heap.push o)[W.heap.size]? = _
  simp
theorem heap_alloc_old {W : World} {o o' : Obj} {k : Nat} (h : W.heap[k]? = some o') : (W.alloc o).heap[k]? = some o' := by
  rw [Below.heap_alloc _ _ _ (blk_lt h)]; exact h

theorem flat_get {α : Type} {rows : List (List α)} {sz : Nat} (hr : ∀ r ∈ rows, r.length = sz) : ∀ {i j : Nat} {r : List α}, rows[i]? = some r → j < sz → rows.flatten[i * sz + j]? = r[j]? := by
  induction rows with
  | nil => intro i j r h; simp at h
  | cons a l ih =>
    intro i j r h hj
    have ha := hr a (by simp)
    cases i with
    | zero =>
      simp at h; subst h
      simp only [List.flatten_cons, Nat.zero_mul, Nat.zero_add]
      rw [List.getElem?_append_left (by omega)]
    | succ i =>
      simp at h
      have := ih (fun r hr' => hr r (by simp [hr'])) h hj
      simp only [List.flatten_cons]
      rw [List.getElem?_append_right (by rw [ha, Nat.succ_mul]; omega)]
      rw [← this]
      congr 1
      rw [ha, Nat.succ_mul]; omega
theorem flat_len {α : Type} {rows : List (List α)} {sz : Nat} (hr : ∀ r ∈ rows, r.length = sz) : rows.flatten.length = rows.length * sz := by
  induction rows with
  | nil => simp
  | cons a l ih =>
    have ha := hr a (by simp)
    simp only [List.flatten_cons, List.length_append, List.length_cons, ih (fun r h => hr r (by simp [h])), ha, Nat.succ_mul]
    omega
theorem flat_row {α : Type} {rows : List (List α)} {sz : Nat} (hr : ∀ r ∈ rows, r.length = sz) {i : Nat} {r : List α} (h : rows[i]? = some r) : (rows.flatten.drop (i * sz)).take sz = r := by
  apply List.ext_getElem?
  intro j
  have hl : r.length = sz := hr r (List.mem_of_getElem? h)
  rw [List.getElem?_take]
  split
  · rename_i hj
    rw [List.getElem?_drop, flat_get hr h hj]
  · rename_i hj
    rw [List.getElem?_eq_none (by omega)]
theorem flat_set {α : Type} {rows : List (List α)} {sz : Nat} (hr : ∀ r ∈ rows, r.length = sz) : ∀ {i : Nat} {r r' : List α}, rows[i]? = some r → r'.length = sz →
    (rows.set i r').flatten = rows.flatten.take (i * sz) ++ r' ++ rows.flatten.drop (i * sz + sz) := by
  induction rows with
  | nil => intro i r r' h; simp at h
  | cons a l ih =>
    intro i r r' h hl
    have ha := hr a (by simp)
    cases i with
    | zero =>
      simp only [List.set_cons_zero, List.flatten_cons, Nat.zero_mul, List.take_zero, List.nil_append, Nat.zero_add]
      rw [List.drop_append, List.drop_eq_nil_of_le (by omega), ha]
      simp
    | succ i =>
      simp at h
      have := ih (fun r hr' => hr r (by simp [hr'])) h hl
      have e1 : (i + 1) * sz = a.length + i * sz := by rw [Nat.succ_mul, ha]; omega
      have e2 : (i + 1) * sz + sz = a.length + (i * sz + sz) := by rw [e1]; omega
      simp only [List.set_cons_succ, List.flatten_cons, this, e1, e2, List.take_append, List.drop_append, Nat.add_assoc]
      rw [List.take_of_length_le (show a.length ≤ a.length + i * sz by omega), List.drop_eq_nil_of_le (show a.length ≤ a.length + (i * sz + sz) by omega)]
      simp [List.append_assoc]

/-- A new block; the state's own blocks get one more. -/
theorem Conc.alloc {C : Cx} {s : St} {γ : Nat → Option Nat} {κ : Nat → Nat} {a : Act} {W : World} (hC : Conc C s γ κ a W) (b : Blk) (ys sp : List Value) (k : Nat)
    (hpos : 0 < b.sz) (hrows : ∀ r ∈ b.rows, r.length = b.sz) (hcell : ∀ c ∈ b.rows.flatten, c.cell = true) (hk : b.rows.length ≤ k) (hkm : k ≤ maxLen) (hlen : (ys ++ sp).length = k * b.sz)
    (hrep : All2 (RepA (s.mm C γ κ W)) b.rows.flatten ys) :
    ∃ γ' κ', Conc C ⟨s.env, s.hp ++ [b]⟩ γ' κ' a (W.alloc (.cells (ys ++ sp).toArray b.ty)) ∧ γ' s.hp.length = some W.heap.size ∧ κ' s.hp.length = k ∧ Keep (s.mm C γ κ W) (St.mm ⟨s.env, s.hp ++ [b]⟩ C γ' κ' (W.alloc (.cells (ys ++ sp).toArray b.ty))) := by
  let γ' : Nat → Option Nat := fun i => if i = s.hp.length then some W.heap.size else γ i
  let κ' : Nat → Nat := fun i => if i = s.hp.length then k else κ i
  have hγ : ∀ i, i < s.hp.length → γ' i = γ i := fun i hi => by simp only [γ']; rw [if_neg (by omega)]
  have hκ : ∀ i, i < s.hp.length → κ' i = κ i := fun i hi => by simp only [κ']; rw [if_neg (by omega)]
  have hγn : γ' s.hp.length = some W.heap.size := by simp [γ']
  have hκn : κ' s.hp.length = k := by simp [κ']
  have hgl : ∀ i g, i < s.hp.length → γ i = some g → g < W.heap.size := by
    intro i g hi hg
    obtain ⟨bb, hbb⟩ : ∃ bb, s.hp[i]? = some bb := ⟨_, List.getElem?_eq_getElem hi⟩
    rcases (hC.blk i bb hbb).mem with ⟨h, _⟩ | ⟨g', ys', sp', h1, h2, _⟩
    · have : γ i = none := h
      rw [hg] at this; cases this
    · have e : γ i = some g' := h1
      rw [hg] at e; cases e
      exact blk_lt h2
  have hN : ∀ x, nset C.X γ' (s.hp ++ [b]).length x ↔ (nset C.X γ s.hp.length x ∨ x = W.heap.size) := by
    intro x
    simp only [nset, List.length_append, List.length_cons, List.length_nil]
    constructor
    · rintro (h | ⟨i, hi, hg⟩)
      · exact .inl (.inl h)
      · by_cases e : i = s.hp.length
        · subst e; rw [hγn] at hg; cases hg; exact .inr rfl
        · rw [hγ i (by omega)] at hg; exact .inl (.inr ⟨i, by omega, hg⟩)
    · rintro ((h | ⟨i, hi, hg⟩) | h)
      · exact .inl h
      · exact .inr ⟨i, by omega, by rw [hγ i hi]; exact hg⟩
      · exact .inr ⟨s.hp.length, by omega, by rw [hγn, h]⟩
  have hKeep : Keep (s.mm C γ κ W) (St.mm ⟨s.env, s.hp ++ [b]⟩ C γ' κ' (W.alloc (.cells (ys ++ sp).toArray b.ty))) := by
    refine ⟨fun x hx ⟨o, ho⟩ => ⟨?_, ?_⟩, fun id bb hbb => ⟨bb, ?_, rfl, Nat.le_refl _, fun _ => ?_⟩⟩
    · have ho' : W.heap[x]? = some o := ho
      show (W.alloc _).heap[x]? = W.heap[x]?
      rw [heap_alloc_old ho', ho']
    · show ¬ nset C.X γ' (s.hp ++ [b]).length x
      rw [hN]
      rintro (h | h)
      · exact hx h
      · have := blk_lt (W := W) ho
        omega
    · show (s.hp ++ [b])[id]? = some bb
      have hbb' : s.hp[id]? = some bb := hbb
      rw [List.getElem?_append_left (List.getElem?_eq_some_iff.1 hbb').1]; exact hbb'
    · have hi : id < s.hp.length := (List.getElem?_eq_some_iff.1 hbb).1
      exact ⟨hγ id hi, hκ id hi⟩
  refine ⟨γ', κ', ⟨hC.size, hC.defers, ?_, ?_, ?_, ?_, hC.xlt, ?_, hC.hos, hC.htape, hC.hout, ?_, ?_⟩, hγn, hκn, hKeep⟩
  · intro t v h
    obtain ⟨x, h1, h2⟩ := hC.env t v h
    exact ⟨x, h1, h2.keep hKeep⟩
  · intro id bb hbb
    have hbb' : (s.hp ++ [b])[id]? = some bb := hbb
    rcases Nat.lt_or_ge id s.hp.length with hi | hi
    · rw [List.getElem?_append_left hi] at hbb'
      have ho := hC.blk id bb hbb'
      refine ⟨ho.pos, ho.rows, ho.cell, ?_, ?_, ?_⟩
      · show _ ≤ κ' id
        rw [hκ id hi]; exact ho.cap
      · show κ' id ≤ _
        rw [hκ id hi]; exact ho.capm
      · rcases ho.mem with ⟨h1, h2, h3⟩ | ⟨g, ys', sp', h1, h2, h3, h4⟩
        · exact .inl ⟨by show γ' id = none; rw [hγ id hi]; exact h1, h2, by show κ' id = 0; rw [hκ id hi]; exact h3⟩
        · exact .inr ⟨g, ys', sp', by show γ' id = some g; rw [hγ id hi]; exact h1, heap_alloc_old h2, by show _ = κ' id * _; rw [hκ id hi]; exact h3, h4.mono fun _ _ h => h.keep hKeep⟩
    · rw [List.getElem?_append_right hi] at hbb'
      have : id = s.hp.length := by
        rcases Nat.eq_or_lt_of_le hi with e | e
        · exact e.symm
        · rw [List.getElem?_eq_none (by simp; omega)] at hbb'; cases hbb'
      subst this
      simp at hbb'
      subst hbb'
      refine ⟨hpos, hrows, hcell, ?_, by show κ' _ ≤ _; rw [hκn]; exact hkm, .inr ⟨W.heap.size, ys, sp, hγn, heap_alloc_new _ _, ?_, hrep.mono fun _ _ h => h.keep hKeep⟩⟩
      · show _ ≤ κ' _; rw [hκn]; exact hk
      · show _ = κ' _ * _; rw [hκn]; exact hlen
  · intro i j g hi hj h1 h2
    have hi' : i < s.hp.length + 1 := by simpa using hi
    have hj' : j < s.hp.length + 1 := by simpa using hj
    by_cases e1 : i = s.hp.length <;> by_cases e2 : j = s.hp.length
    · omega
    · rw [e1, hγn] at h1; cases h1
      rw [hγ j (by omega)] at h2
      have := hgl j _ (by omega) h2; omega
    · rw [e2, hγn] at h2; cases h2
      rw [hγ i (by omega)] at h1
      have := hgl i _ (by omega) h1; omega
    · rw [hγ i (by omega)] at h1; rw [hγ j (by omega)] at h2
      exact hC.inj i j g (by omega) (by omega) h1 h2
  · intro i g hi hg
    have hi' : i < s.hp.length + 1 := by simpa using hi
    by_cases e1 : i = s.hp.length
    · rw [e1, hγn] at hg; cases hg
      refine ⟨fun hX => ?_, .inl hC.hsize⟩
      have := hC.xlt _ hX
      have := hC.hsize
      omega
    · rw [hγ i (by omega)] at hg
      exact hC.own i g (by omega) hg
  · intro x hx hl
    rw [Below.heap_alloc _ _ _ (Nat.lt_of_lt_of_le hx hC.hsize)]
    exact hC.old x hx hl
  · have := hC.hsize
    show _ ≤ (W.heap.push _).size
    simp; omega
  · exact hC.lent.keep hKeep
/-- A store into an own block: row r of block id. -/
theorem Conc.store {C : Cx} {s : St} {γ : Nat → Option Nat} {κ : Nat → Nat} {a : Act} {W : World} (hC : Conc C s γ κ a W) {id : Nat} {b : Blk} (hb : s.hp[id]? = some b) {r : Nat} {row : List AV} (hrow : b.rows[r]? = some row) (off : Nat)
    (seg : List AV) (xs : List Value) (hfit : off + seg.length ≤ b.sz) (hcell : ∀ c ∈ seg, c.cell = true) (hrep : All2 (RepA (s.mm C γ κ W)) seg xs) {g : Nat} (hg : γ id = some g) :
    Conc C ⟨s.env, s.hp.set id ⟨b.ty, b.sz, b.rows.set r (row.take off ++ seg ++ row.drop (off + seg.length))⟩⟩ γ κ a (W.setCells g (r * b.sz + off) xs) := by
  have hid : id < s.hp.length := (List.getElem?_eq_some_iff.1 hb).1
  have hB := hC.blk id b hb
  have hrl : row.length = b.sz := hB.rows row (List.mem_of_getElem? hrow)
  have hrn : r < b.rows.length := (List.getElem?_eq_some_iff.1 hrow).1
  let row' := row.take off ++ seg ++ row.drop (off + seg.length)
  let b' : Blk := ⟨b.ty, b.sz, b.rows.set r row'⟩
  let W' := W.setCells g (r * b.sz + off) xs
  have hl' : row'.length = b.sz := by simp only [row', List.length_append, List.length_take, List.length_drop]; omega
  obtain ⟨ys, sp, hmem, hlen, hys⟩ : ∃ ys sp, W.heap[g]? = some (.cells (ys ++ sp).toArray b.ty (0, 0)) ∧ (ys ++ sp).length = κ id * b.sz ∧ All2 (RepA (s.mm C γ κ W)) b.rows.flatten ys := by
    rcases hB.mem with ⟨h, _⟩ | ⟨g', ys, sp, h1, h2, h3, h4⟩
    · have : γ id = none := h
      rw [hg] at this; cases this
    · have : γ id = some g' := h1
      rw [hg] at this; cases this
      exact ⟨ys, sp, h2, h3, h4⟩
  have hxl : xs.length = seg.length := hrep.length.symm
  have hyl : ys.length = b.rows.length * b.sz := by rw [← hys.length, flat_len hB.rows]
  have hle : (r + 1) * b.sz ≤ b.rows.length * b.sz := Nat.mul_le_mul_right _ hrn
  have hle1 : r * b.sz + off + xs.length ≤ ys.length := by rw [Nat.succ_mul] at hle; omega
  -- the heap behind
  have hfar : ∀ k, k ≠ g → W'.heap[k]? = W.heap[k]? := by
    intro k hk
    have : ∀ (vs : List Value) (o : Nat) (w : World), (w.setCells g o vs).heap[k]? = w.heap[k]? := by
      intro vs
      induction vs with
      | nil => intro o w; rfl
      | cons v l ih =>
        intro o w
        rw [World.setCells, ih]
        exact Below.heap_setCell w ⟨g, o, none⟩ v k hk
    exact this _ _ _
  have hsame : W'.os = W.os ∧ W'.tape = W.tape ∧ W'.output = W.output ∧ W'.heap.size = W.heap.size := by
    have : ∀ (vs : List Value) (o : Nat) (w : World), (w.setCells g o vs).os = w.os ∧ (w.setCells g o vs).tape = w.tape ∧ (w.setCells g o vs).output = w.output ∧ (w.setCells g o vs).heap.size = w.heap.size := by
      intro vs
      induction vs with
      | nil => intro o w; exact ⟨rfl, rfl, rfl, rfl⟩
      | cons v l ih =>
        intro o w
        rw [World.setCells]
        obtain ⟨h1, h2, h3, h4⟩ := ih (o + 1) (w.setCell ⟨g, o, none⟩ v)
        exact ⟨h1, h2, h3, by rw [h4]; simp [World.setCell]⟩
    exact this _ _ _
  have hat : W'.heap[g]? = some (.cells ((ys.take (r * b.sz + off) ++ xs ++ ys.drop (r * b.sz + off + xs.length)) ++ sp).toArray b.ty (0, 0)) := by
    have key : ∀ (vs : List Value) (o : Nat) (w : World) (cur : List Value), w.heap[g]? = some (.cells cur.toArray b.ty (0, 0)) → o + vs.length ≤ cur.length →
        (w.setCells g o vs).heap[g]? = some (.cells (cur.take o ++ vs ++ cur.drop (o + vs.length)).toArray b.ty (0, 0)) := by
      intro vs
      induction vs with
      | nil => intro o w cur h hl; simpa [World.setCells] using h
      | cons v l ih =>
        intro o w cur h hl
        simp only [List.length_cons] at hl
        rw [World.setCells]
        have h2 : (w.setCell ⟨g, o, none⟩ v).heap[g]? = some (.cells (cur.set o v).toArray b.ty (0, 0)) := by
          simp only [World.setCell, Array.getElem?_modify, if_true, h]
          simp
        rw [ih (o + 1) _ _ h2 (by simp; omega)]
        congr 3
        rw [List.take_set, List.drop_set_of_lt (by omega)]
        simp only [List.length_cons]
        rw [show o + 1 + l.length = o + (l.length + 1) by omega]
        congr 1
        have ho : o < cur.length := by omega
        apply List.ext_getElem?
        intro j
        rcases Nat.lt_trichotomy j o with h | h | h
        · rw [List.getElem?_append_left (by simp; omega), List.getElem?_append_left (by simp; omega), List.getElem?_set_ne (by omega), List.getElem?_take_of_lt (by omega), List.getElem?_take_of_lt h]
        · subst h
          rw [List.getElem?_append_left (by simp; omega), List.getElem?_set_self (by simp; omega), List.getElem?_append_right (by simp; omega)]
          simp [Nat.min_eq_left (Nat.le_of_lt ho)]
        · rw [List.getElem?_append_right (by simp; omega), List.getElem?_append_right (by simp; omega)]
          simp only [List.length_set, List.length_take]
          rw [Nat.min_eq_left (by omega), Nat.min_eq_left (by omega), show j - o = (j - (o + 1)) + 1 by omega, List.getElem?_cons_succ]
    have := key xs (r * b.sz + off) W (ys ++ sp) hmem (by simp only [List.length_append]; omega)
    rw [List.take_append_of_le_length (by omega), List.drop_append_of_le_length (by omega)] at this
    rw [show W' = W.setCells g (r * b.sz + off) xs from rfl, this]
    simp [List.append_assoc]
  have hKeep : Keep (s.mm C γ κ W) (St.mm ⟨s.env, s.hp.set id b'⟩ C γ κ W') := by
    refine ⟨fun x hx ⟨o, ho⟩ => ⟨?_, ?_⟩, fun id' bb hbb => ?_⟩
    · refine hfar x fun e => hx (.inr ⟨id, hid, ?_⟩)
      rw [e]; exact hg
    · show ¬ nset C.X γ (s.hp.set id b').length x
      rw [List.length_set]; exact hx
    · show ∃ b'', (s.hp.set id b')[id']? = some b'' ∧ _
      have hbb' : s.hp[id']? = some bb := hbb
      by_cases e : id = id'
      · subst e
        rw [hb] at hbb'; cases hbb'
        exact ⟨b', by rw [List.getElem?_set_self hid], rfl, by simp [b'], fun _ => ⟨rfl, rfl⟩⟩
      · exact ⟨bb, by rw [List.getElem?_set_ne e]; exact hbb', rfl, Nat.le_refl _, fun _ => ⟨rfl, rfl⟩⟩
  refine ⟨hC.size, hC.defers, ?_, ?_, ?_, ?_, hC.xlt, ?_, hsame.1.trans hC.hos, hsame.2.1.trans hC.htape, hsame.2.2.1.trans hC.hout, by rw [hsame.2.2.2]; exact hC.hsize, ?_⟩
  · intro t v h
    obtain ⟨x, h1, h2⟩ := hC.env t v h
    exact ⟨x, h1, h2.keep hKeep⟩
  · intro id' bb hbb
    have hbb' : (s.hp.set id b')[id']? = some bb := hbb
    by_cases e : id = id'
    · subst e
      rw [List.getElem?_set_self hid] at hbb'
      obtain rfl := Option.some.inj hbb'
      have hflat := flat_set hB.rows hrow hl'
      refine ⟨hB.pos, ?_, ?_, ?_, hB.capm, .inr ⟨g, ys.take (r * b.sz + off) ++ xs ++ ys.drop (r * b.sz + off + xs.length), sp, hg, hat, ?_, ?_⟩⟩
      · intro q hq
        rcases List.mem_or_eq_of_mem_set hq with h | h
        · exact hB.rows q h
        · rw [h]; exact hl'
      · intro c hc
        have hc' : c ∈ (b.rows.set r row').flatten := hc
        rw [hflat] at hc'
        have hrf : ∀ c ∈ row, c ∈ b.rows.flatten := fun c hc => List.mem_flatten.2 ⟨row, List.mem_of_getElem? hrow, hc⟩
        simp only [List.mem_append] at hc'
        rcases hc' with (h | h) | h
        · exact hB.cell c (List.mem_of_mem_take h)
        · simp only [row', List.mem_append] at h
          rcases h with (h | h) | h
          · exact hB.cell c (hrf c (List.mem_of_mem_take h))
          · exact hcell c h
          · exact hB.cell c (hrf c (List.mem_of_mem_drop h))
        · exact hB.cell c (List.mem_of_mem_drop h)
      · show (b.rows.set r row').length ≤ κ id
        rw [List.length_set]; exact hB.cap
      · show (ys.take (r * b.sz + off) ++ xs ++ ys.drop (r * b.sz + off + xs.length) ++ sp).length = κ id * b.sz
        rw [← hlen]
        simp only [List.length_append, List.length_take, List.length_drop]
        omega
      · show All2 _ (b.rows.set r row').flatten _
        have e : (b.rows.set r row').flatten = b.rows.flatten.take (r * b.sz + off) ++ seg ++ b.rows.flatten.drop (r * b.sz + off + seg.length) := by
          rw [hflat]
          have hrow' := flat_row hB.rows hrow
          have hfl := flat_len hB.rows
          simp only [row']
          have h1 : b.rows.flatten.take (r * b.sz + off) = b.rows.flatten.take (r * b.sz) ++ row.take off := by
            rw [List.take_add, ← hrow', List.take_take, Nat.min_eq_left (by omega)]
          have h2 : b.rows.flatten.drop (r * b.sz + off + seg.length) = row.drop (off + seg.length) ++ b.rows.flatten.drop (r * b.sz + b.sz) := by
            rw [← hrow']
            apply List.ext_getElem?
            intro j
            rw [List.getElem?_drop]
            rcases Nat.lt_or_ge j (b.sz - (off + seg.length)) with h | h
            · rw [List.getElem?_append_left (by simp only [List.length_drop, List.length_take, hfl]; rw [Nat.succ_mul] at hle; omega), List.getElem?_drop, List.getElem?_take_of_lt (by omega), List.getElem?_drop]
              congr 1; omega
            · rw [List.getElem?_append_right (by simp only [List.length_drop, List.length_take, hfl]; rw [Nat.succ_mul] at hle; omega), List.getElem?_drop]
              congr 1
              simp only [List.length_drop, List.length_take, hfl]; rw [Nat.succ_mul] at hle; omega
          rw [h1, h2]
          simp [List.append_assoc]
        rw [e, hxl]
        have hys' := hys.mono fun _ _ h => h.keep hKeep
        exact ((hys'.take _).append (hrep.mono fun _ _ h => h.keep hKeep)).append (hys'.drop _)
    · rw [List.getElem?_set_ne e] at hbb'
      have ho := hC.blk id' bb hbb'
      refine ⟨ho.pos, ho.rows, ho.cell, ho.cap, ho.capm, ?_⟩
      rcases ho.mem with ⟨h1, h2, h3⟩ | ⟨g', ys', sp', h1, h2, h3, h4⟩
      · exact .inl ⟨h1, h2, h3⟩
      · have hne : g' ≠ g := by
          intro eg
          rw [eg] at h1
          exact e (hC.inj id id' g hid (List.getElem?_eq_some_iff.1 hbb').1 hg h1)
        exact .inr ⟨g', ys', sp', h1, by rw [show (St.mm ⟨s.env, s.hp.set id b'⟩ C γ κ W').W.heap[g']? = W'.heap[g']? from rfl, hfar g' hne]; exact h2, h3, h4.mono fun _ _ h => h.keep hKeep⟩
  · intro i j g' hi hj h1 h2
    exact hC.inj i j g' (by simpa using hi) (by simpa using hj) h1 h2
  · intro i g' hi hg'
    exact hC.own i g' (by simpa using hi) hg'
  · intro x hx hl
    have hne : x ≠ g := by
      intro e
      rcases (hC.own id g hid hg).2 with h | h
      · omega
      · exact hl (by rw [e]; exact h)
    rw [hfar x hne]
    exact hC.old x hx hl
  · exact hC.lent.keep hKeep
end Go.Proofs.YtjjdabihnmilgaaGreat.A
namespace Go.Proofs.YtjjdabihnmilgaaGreat.A
open Go.RowKit
set_option linter.unusedVariables false
set_option linter.unusedSimpArgs false

inductive TK where
  | sl (e : TypeId) | str | int (k : IntKind) | bool | agg | map (k v : TypeId) | other
  deriving Inhabited
structure TI where
  sz : Nat
  kd : TK
  zero : List AV
  flds : List (Nat × Nat × Bool)
  bytes : Nat
  deriving Inhabited
def TI.isAgg (i : TI) : Bool := match i.kd with | .agg => true | _ => false
def kdOf : TypeDesc → TK
  | .slice e => .sl e
  | .string => .str
  | .int k => .int k
  | .bool => .bool
  | .struct _ => .agg
  | .array _ _ => .agg
  | .map k v => .map k v
  | _ => .other
def constAV : Value → Option AV
  | .int k n => some (.imm (.int k n))
  | .bool b => some (.imm (.bool b))
  | .string t => some (.imm (.str t))
  | .slice none 0 0 => some .nils
  | .pointer none => some (.imm .nilp)
  | .nilFunc => some (.imm .nilf)
  | _ => none
theorem constAV_rep {M : Mm} {x : Value} {v : AV} (h : constAV x = some v) : RepA M v x := by
  unfold constAV at h
  split at h
  all_goals first | (cases h; done) | (obtain rfl := Option.some.inj h; first | exact .imm _ _ (.int _ _) | exact .imm _ _ (.bool _) | exact .imm _ _ (.str _) | exact .nils | exact .imm _ _ .nilp | exact .imm _ _ .nilf)
def constAVs : List Value → Option (List AV)
  | [] => some []
  | x :: l => match constAV x, constAVs l with
    | some v, some vs => some (v :: vs)
    | _, _ => none
theorem constAVs_rep {M : Mm} : ∀ {xs : List Value} {vs : List AV}, constAVs xs = some vs → All2 (RepA M) vs xs
  | [], vs, h => by simp only [constAVs, Option.some.injEq] at h; subst h; exact .nil
  | x :: l, vs, h => by
    simp only [constAVs] at h
    split at h
    · rename_i v vs' h1 h2
      obtain rfl := Option.some.inj h
      exact .cons (constAV_rep h1) (constAVs_rep h2)
    · cases h
def fldOf (P : Program) (f : Field) : Option (Nat × Nat × Bool) :=
  match (P.info? f.type).map (·.size), (P.underlying f.type).map kdOf with
  | some n, some .agg => some (f.offset, n, true)
  | some n, some _ => some (f.offset, n, false)
  | _, _ => none
def fldsOf (P : Program) (d : TypeDesc) : Option (List (Nat × Nat × Bool)) :=
  match d with
  | .struct fs => fs.toList.mapM (fldOf P)
  | _ => some []
structure TOk (P : Program) (t : TypeId) (i : TI) : Prop where
  size : (P.info? t).map (·.size) = some i.sz
  bytes : (P.info? t).map (·.bytes) = some i.bytes
  und : ∃ d, P.underlying t = some d ∧ kdOf d = i.kd ∧ fldsOf P d = some i.flds
  zero : ∃ z, (P.info? t).bind (·.zero) = some z ∧ constAVs z.cells.toList = some i.zero
  zl : i.zero.length = i.sz
def look : List (Nat × TI) → Nat → Option TI
  | [], _ => none
  | (d, v) :: r, t => match Nat.beq d t with | true => some v | false => look r t
def TsOK (P : Program) (T : List (Nat × TI)) : Prop := ∀ t i, look T t = some i → TOk P t i
theorem TsOK.nil (P : Program) : TsOK P [] := fun t i h => by cases h
theorem TsOK.cons {P : Program} {t : Nat} {i : TI} {T : List (Nat × TI)} (h1 : TOk P t i) (h2 : TsOK P T) : TsOK P ((t, i) :: T) := by
  intro u j h
  simp only [look] at h
  split at h
  · rename_i e
    obtain rfl := Option.some.inj h
    have e := Nat.eq_of_beq_eq_true e
    subst e; exact h1
  · exact h2 u j h

section runs
variable {P : Program} {t : TypeId} {i : TI}
theorem TOk.sizeOf (h : TOk P t i) (w : World) : (sizeOf t).run P w = .ok i.sz w := by
  obtain ⟨info, h1, h2⟩ := Option.map_eq_some_iff.1 h.size
  unfold Go.sizeOf typeInfo
  simp only [program]
  simp [h1, h2, bind, Sem.bind, pure, Sem.run]
theorem TOk.isAgg (h : TOk P t i) (w : World) : (isAgg t).run P w = .ok i.isAgg w := by
  obtain ⟨d, h1, h2, _⟩ := h.und
  unfold Go.isAgg underlying TI.isAgg
  rw [← h2]
  simp only [program]
  cases d <;> simp [h1, bind, Sem.bind, pure, Sem.run, kdOf]
theorem TOk.zeroValue (h : TOk P t i) : ∃ z, constAVs z.cells.toList = some i.zero ∧ ∀ w, (zeroValue t).run P w = .ok z w := by
  obtain ⟨z, h1, h2⟩ := h.zero
  obtain ⟨info, h3, h4⟩ := Option.bind_eq_some_iff.1 h1
  refine ⟨z, h2, fun w => ?_⟩
  unfold Go.zeroValue typeInfo
  simp only [program]
  simp [h3, h4, bind, Sem.bind, pure, Sem.run]
theorem run_bind {α β : Type} {m : Sem α} {f : α → Sem β} {w w' : World} {a : α} (h : m.run P w = .ok a w') : (m >>= f).run P w = (f a).run P w' := by
  rw [Sem.run_bind, h]; rfl
theorem loads_run (ad : Addr) (W : World) : ∀ (l : List Value) (i : Nat) (acc : Array Value), (∀ j u, l[j]? = some u → W.cell? (ad.add (i + j)) = some u) → (loadCellsFrom ad i l.length acc).run P W = .ok (acc ++ l.toArray) W
  | [], i, acc, _ => by
    simp only [List.length_nil, loadCellsFrom]
    go_simp
  | v :: l, i, acc, h => by
    have h0 : W.cell? (ad.add i) = some v := h 0 v rfl
    have ih := loads_run ad W l (i + 1) (acc.push v) (fun j u hj => by rw [Nat.add_assoc, Nat.add_comm 1]; exact h (j + 1) u hj)
    simp only [List.length_cons, loadCellsFrom]
    go_simp
    done
theorem loadVar_agg (h : TOk P t i) (ha : i.isAgg = true) (ad : Addr) (W : World) (l : List Value) (hl : l.length = i.sz) (hc : ∀ j u, l[j]? = some u → W.cell? (ad.add j) = some u) : (loadVar t ad).run P W = .ok (.agg l.toArray) W := by
  unfold loadVar loadCells
  rw [run_bind (h.isAgg W), ha]
  simp only [if_true]
  have := loads_run (P := P) ad W l 0 #[] (fun j u hj => by rw [Nat.zero_add]; exact hc j u hj)
  rw [run_bind (h.sizeOf W), ← hl, run_bind this]
  simp [pure, Sem.run]
theorem loadVar_one (h : TOk P t i) (ha : i.isAgg = false) (ad : Addr) (W : World) (v : Value) (hc : W.cell? ad = some v) : (loadVar t ad).run P W = .ok v W := by
  unfold loadVar
  rw [run_bind (h.isAgg W), ha]
  simp [load, Sem.run, hc]
theorem storeCells_run (g : Nat) (W : World) (cur : List Value) (ty : TypeId) (hg : W.heap[g]? = some (.cells cur.toArray ty (0, 0))) : ∀ (l : List Value) (o i : Nat), (∀ v ∈ l, v.oneCell' = true) → o + i + l.length ≤ cur.length →
    ∀ W', (∃ cur', W'.heap[g]? = some (.cells cur' ty (0, 0)) ∧ cur'.size = cur.length) → (storeCells ⟨g, o, none⟩ l i).run P W' = .ok () (W'.setCells g (o + i) l)
  | [], o, i, _, _, W', _ => rfl
  | v :: l, o, i, h1, h2, W', ⟨cur', h3, h4⟩ => by
    have hv := h1 v (by simp)
    simp only [List.length_cons] at h2
    have had : (⟨g, o, none⟩ : Addr).add i = ⟨g, o + i, none⟩ := by unfold Addr.add; split <;> simp_all
    have hcell : ∃ q, W'.cell? ⟨g, o + i, none⟩ = some q := by
      rw [blk_cell h3]
      exact ⟨_, Array.getElem?_eq_getElem (by omega)⟩
    obtain ⟨q, hq⟩ := hcell
    have hfz := blk_frozen h3 (o + i)
    have hrun : (store ((⟨g, o, none⟩ : Addr).add i) v).run P W' = .ok () (W'.setCell ⟨g, o + i, none⟩ v) := by
      rw [had]
      unfold store
      cases v <;> first | (simp [Value.oneCell'] at hv; done) | simp [Sem.run, hq, hfz]
    simp only [storeCells]
    rw [run_bind hrun]
    have hW : ∃ cur'', (W'.setCell ⟨g, o + i, none⟩ v).heap[g]? = some (.cells cur'' ty (0, 0)) ∧ cur''.size = cur.length := by
      refine ⟨cur'.setIfInBounds (o + i) v, ?_, by simpa using h4⟩
      simp only [World.setCell, Array.getElem?_modify, if_true, h3]
      simp
    have := storeCells_run g W cur ty hg l o (i + 1) (fun v hv => h1 v (by simp [hv])) (by omega) _ hW
    rw [this, World.setCells]
    rfl
end runs
end Go.Proofs.YtjjdabihnmilgaaGreat.A
