/- The abstract walk, part A: values without addresses, and how they lie in a world's memory. -/
import Derived.Tactics
import Derived.WalkKit
import Derived.Below
import Derived.DataElems
import Derived.KernelRfl
import Derived.Laws.IdiomCopy
import Derived.Laws.OwnMore
import Derived.Maps.AppendAt
import Derived.Deep.LoopGhost
namespace Go.Proofs.YteijifoobaoclaaGreat.A
open Go.RowKit
set_option linter.unusedVariables false
set_option linter.unusedSimpArgs false

inductive All2 {α β : Type} (R : α → β → Prop) : List α → List β → Prop
  | nil : All2 R [] []
  | cons {a b l m} : R a b → All2 R l m → All2 R (a :: l) (b :: m)
namespace All2
variable {α β : Type} {R : α → β → Prop}
theorem length {l : List α} {m : List β} (h : All2 R l m) : l.length = m.length := by
  induction h with
  | nil => rfl
  | cons _ _ ih => simp [ih]
theorem get {l : List α} {m : List β} (h : All2 R l m) : ∀ {i : Nat} {a : α}, l[i]? = some a → ∃ b, m[i]? = some b ∧ R a b := by
  induction h with
  | nil => intro i a h; simp at h
  | cons h1 _ ih =>
    intro i a h
    cases i with
    | zero => simp at h; subst h; exact ⟨_, rfl, h1⟩
    | succ i => simp at h; simpa using ih h
theorem get' {l : List α} {m : List β} (h : All2 R l m) : ∀ {i : Nat} {b : β}, m[i]? = some b → ∃ a, l[i]? = some a ∧ R a b := by
  induction h with
  | nil => intro i a h; simp at h
  | cons h1 _ ih =>
    intro i a h
    cases i with
    | zero => simp at h; subst h; exact ⟨_, rfl, h1⟩
    | succ i => simp at h; simpa using ih h
theorem append {l l' : List α} {m m' : List β} (h : All2 R l m) (h' : All2 R l' m') : All2 R (l ++ l') (m ++ m') := by
  induction h with
  | nil => exact h'
  | cons h1 _ ih => exact .cons h1 ih
theorem take {l : List α} {m : List β} (h : All2 R l m) : ∀ n, All2 R (l.take n) (m.take n) := by
  induction h with
  | nil => intro n; simpa using All2.nil
  | cons h1 _ ih =>
    intro n
    cases n with
    | zero => exact .nil
    | succ n => exact .cons h1 (ih n)
theorem drop {l : List α} {m : List β} (h : All2 R l m) : ∀ n, All2 R (l.drop n) (m.drop n) := by
  induction h with
  | nil => intro n; simpa using All2.nil
  | cons h1 h2 ih =>
    intro n
    cases n with
    | zero => exact .cons h1 h2
    | succ n => exact ih n
theorem mono {S : α → β → Prop} {l : List α} {m : List β} (h : All2 R l m) (hs : ∀ a b, R a b → S a b) : All2 S l m := by
  induction h with
  | nil => exact .nil
  | cons h1 _ ih => exact .cons (hs _ _ h1) ih
theorem mono_mem {S : α → β → Prop} {l : List α} {m : List β} (h : All2 R l m) (hs : ∀ a b, a ∈ l → b ∈ m → R a b → S a b) : All2 S l m := by
  induction h with
  | nil => exact .nil
  | cons h1 _ ih => exact .cons (hs _ _ (by simp) (by simp) h1) (ih fun a b ha hb => hs a b (by simp [ha]) (by simp [hb]))
theorem set {l : List α} {m : List β} (h : All2 R l m) {a : α} {b : β} (hab : R a b) : ∀ i, All2 R (l.set i a) (m.set i b) := by
  induction h with
  | nil => intro i; simpa using All2.nil
  | cons h1 h2 ih =>
    intro i
    cases i with
    | zero => exact .cons hab h2
    | succ i => exact .cons h1 (ih i)
theorem replicate {a : α} {b : β} (h : R a b) : ∀ n, All2 R (List.replicate n a) (List.replicate n b)
  | 0 => .nil
  | n + 1 => .cons h (replicate h n)
theorem split {l l' : List α} : ∀ {m : List β}, All2 R (l ++ l') m → All2 R l (m.take l.length) ∧ All2 R l' (m.drop l.length) := by
  induction l with
  | nil => intro m h; exact ⟨by simpa using All2.nil, by simpa using h⟩
  | cons a l ih =>
    intro m h
    cases h with
    | cons h1 h2 =>
      obtain ⟨k1, k2⟩ := ih h2
      exact ⟨by simpa using All2.cons h1 k1, by simpa using k2⟩
end All2

/-- Values without addresses: what will not be written any more. -/
inductive IV where
  | int (k : IntKind) (n : Int)
  | bool (b : Bool)
  | str (s : ByteArray)
  | sl (rows : List (List IV))
  | nilp
  | nilf
  | fn (f : Nat)
  | any
  deriving Inhabited

def CellsAt (W : World) (ad : Addr) (ys : List Value) : Prop := ∀ i y, ys[i]? = some y → W.cell? (ad.add i) = some y

def notMap : Value → Bool
  | .map _ => false
  | _ => true
inductive RepI (W : World) (N : Nat → Prop) : IV → Value → Prop
  | int (k : IntKind) (n : Int) : RepI W N (.int k n) (.int k n)
  | bool (b : Bool) : RepI W N (.bool b) (.bool b)
  | str (s : ByteArray) : RepI W N (.str s) (.string s)
  | nil (A : Option Addr) (c : Nat) : RepI W N (.sl []) (.slice A 0 c)
  | sl (rows : List (List IV)) (ad : Addr) (n c sz : Nat) (ys : List Value) (h0 : rows ≠ []) (hsz : 0 < sz) (hn : n = rows.length) (hc : n ≤ c) (hb : ¬ N ad.block) (hr : ∀ r ∈ rows, r.length = sz)
      (hy : CellsAt W ad ys) (hrep : All2 (RepI W N) rows.flatten ys) : RepI W N (.sl rows) (.slice (some ad) n c)
  | nilp : RepI W N .nilp (.pointer none)
  | nilf : RepI W N .nilf .nilFunc
  | fn (f : Nat) : RepI W N (.fn f) (.func (.func f) #[] #[])
  | any (x : Value) (h1 : x.oneCell' = true) (h2 : x.cells = #[x]) (h3 : notMap x = true) : RepI W N .any x

theorem cell_block {W : World} {ad : Addr} {y : Value} (h : W.cell? ad = some y) : ∃ o, W.heap[ad.block]? = some o := by
  unfold World.cell? at h
  split at h
  · rename_i hb; exact ⟨_, hb⟩
  · cases h
theorem add_block (ad : Addr) (i : Nat) : (ad.add i).block = ad.block := by unfold Addr.add; split <;> rfl
theorem CellsAt.keep {W W' : World} {ad : Addr} {ys : List Value} (h : CellsAt W ad ys) (hk : (∃ o, W.heap[ad.block]? = some o) → W'.heap[ad.block]? = W.heap[ad.block]?) : CellsAt W' ad ys := by
  intro i y hy
  have h1 := h i y hy
  obtain ⟨o, ho⟩ := cell_block h1
  rw [add_block] at ho
  rw [World.cell?_of_block (w := W) (by rw [add_block]; exact hk ⟨o, ho⟩)]
  exact h1
theorem CellsAt.block {W : World} {ad : Addr} {ys : List Value} (h : CellsAt W ad ys) (h0 : ys ≠ []) : ∃ o, W.heap[ad.block]? = some o := by
  cases ys with
  | nil => exact absurd rfl h0
  | cons y r =>
    obtain ⟨o, ho⟩ := cell_block (h 0 y rfl)
    rw [add_block] at ho
    exact ⟨o, ho⟩
theorem flatten_ne {α : Type} {rows : List (List α)} {sz : Nat} (h0 : rows ≠ []) (hsz : 0 < sz) (hr : ∀ r ∈ rows, r.length = sz) : rows.flatten ≠ [] := by
  cases rows with
  | nil => exact absurd rfl h0
  | cons r l =>
    have := hr r (by simp)
    intro e
    simp at e
    rw [e.1] at this
    simp at this
    omega
/-- what does not touch its cells leaves it as it is. -/
theorem RepI.keep {W W' : World} {N N' : Nat → Prop} (hk : ∀ b, ¬ N b → (∃ o, W.heap[b]? = some o) → W'.heap[b]? = W.heap[b]? ∧ ¬ N' b) {v : IV} {x : Value} (h : RepI W N v x) : RepI W' N' v x := by
  refine RepI.rec (motive_1 := fun v x _ => RepI W' N' v x) (motive_2 := fun vs xs _ => All2 (RepI W' N') vs xs) (fun k n => .int k n) (fun b => .bool b) (fun s => .str s) (fun A c => .nil A c) ?_ .nilp .nilf (fun f => .fn f) (fun x h1 h2 h3 => .any x h1 h2 h3) .nil (fun _ _ h1 h2 => .cons h1 h2) h
  intro rows ad n c sz ys h0 hsz hn hc hb hr hy hrep ih
  have hne : ys ≠ [] := by
    intro e
    have := hrep.length
    rw [e] at this
    exact flatten_ne h0 hsz hr (List.length_eq_zero_iff.1 (by simpa using this))
  have := hk ad.block hb (hy.block hne)
  exact .sl rows ad n c sz ys h0 hsz hn hc this.2 hr (hy.keep fun _ => this.1) ih
/-- one that fits in a cell. -/
theorem RepI.one {W : World} {N : Nat → Prop} {v : IV} {x : Value} (h : RepI W N v x) : x.oneCell' = true := by cases h <;> first | rfl | assumption
theorem RepI.not_agg {W : World} {N : Nat → Prop} {v : IV} {x : Value} (h : RepI W N v x) : x.cells = #[x] := by cases h <;> first | rfl | assumption
theorem RepI.notMap {W : World} {N : Nat → Prop} {v : IV} {x : Value} (h : RepI W N v x) : A.notMap x = true := by cases h <;> first | rfl | assumption
theorem RepI.int_inv {W : World} {N : Nat → Prop} {k : IntKind} {n : Int} {x : Value} (h : RepI W N (.int k n) x) : x = .int k n := by cases h; rfl
theorem RepI.bool_inv {W : World} {N : Nat → Prop} {b : Bool} {x : Value} (h : RepI W N (.bool b) x) : x = .bool b := by cases h; rfl
theorem RepI.str_inv {W : World} {N : Nat → Prop} {s : ByteArray} {x : Value} (h : RepI W N (.str s) x) : x = .string s := by cases h; rfl
theorem RepI.sl_inv {W : World} {N : Nat → Prop} {rows : List (List IV)} {x : Value} (h : RepI W N (.sl rows) x) : ∃ A c, x = .slice A rows.length c ∧ rows.length ≤ c := by
  cases h with
  | nil A c => exact ⟨A, c, rfl, Nat.zero_le _⟩
  | sl _ ad n c sz ys h0 hsz hn hc hb hr hy hrep => subst hn; exact ⟨some ad, c, rfl, hc⟩
/-- Cells as one value. -/
def pkv : List Value → Value
  | [x] => x
  | l => .agg l.toArray
/-- Block g is a map with these entries, in the order in which they came. -/
structure MapAt (W : World) (N : Nat → Prop) (g : Nat) (ks vs : List (List IV)) : Prop where
  out : ¬ N g
  at_ : ∃ (es : Array MapEntry) (xs ys : List (List Value)), W.heap[g]? = some (.map es es.size) ∧ es.toList.map (·.key) = xs.map pkv ∧ es.toList.map (·.val) = ys.map pkv ∧ es.toList.map (·.born) = List.range es.size ∧ All2 (All2 (RepI W N)) ks xs ∧ All2 (All2 (RepI W N)) vs ys
theorem MapAt.keep {W W' : World} {N N' : Nat → Prop} (hk : ∀ b, ¬ N b → (∃ o, W.heap[b]? = some o) → W'.heap[b]? = W.heap[b]? ∧ ¬ N' b) {g : Nat} {ks vs : List (List IV)} (h : MapAt W N g ks vs) : MapAt W' N' g ks vs := by
  obtain ⟨h0, es, xs, ys, h1, h2, h3, h4, h5, h6⟩ := h
  obtain ⟨e1, e2⟩ := hk g h0 ⟨_, h1⟩
  exact ⟨e2, es, xs, ys, e1.trans h1, h2, h3, h4, h5.mono fun _ _ h => h.mono fun _ _ h => h.keep hk, h6.mono fun _ _ h => h.mono fun _ _ h => h.keep hk⟩
end Go.Proofs.YteijifoobaoclaaGreat.A
