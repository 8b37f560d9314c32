/- The abstract walk, part B: states (slots and own blocks by number), what a machine's state must be for one, and the rules of code. -/
import Derived.Test.YteijifoobaoclaaGreatAwA
namespace Go.Proofs.YteijifoobaoclaaGreat.A
open Go.RowKit
set_option linter.unusedVariables false
set_option linter.unusedSimpArgs false

inductive AV where
  | imm (v : IV)
  | agg (l : List AV)
  | tup (l : List AV)
  | nils
  | nocap
  | ptr (id ver row off : Nat)
  | os (id n : Nat)
  | pin (l : List IV)
  | fn (f : Nat) (caps : List AV)
  | undef
  | mp (g : Nat) (ks vs : List (List IV))
  | mpi (ks vs : List (List IV))
  deriving Inhabited
def AV.cell : AV → Bool
  | .agg _ => false
  | .tup _ => false
  | .undef => false
  | .mp _ _ _ => false
  | .mpi _ _ => false
  | _ => true
/-- A row of own elements: each of sz cells. -/
structure Blk where
  ty : TypeId
  sz : Nat
  rows : List (List AV)
structure Mm where
  W : World
  N : Nat → Prop
  γ : Nat → Option Nat
  κ : Nat → Nat
  hp : List Blk
inductive RepA (M : Mm) : AV → Value → Prop
  | imm (v : IV) (x : Value) (h : RepI M.W M.N v x) : RepA M (.imm v) x
  | agg (l : List AV) (xs : List Value) (h : All2 (RepA M) l xs) : RepA M (.agg l) (.agg xs.toArray)
  | tup (l : List AV) (xs : List Value) (h : All2 (RepA M) l xs) : RepA M (.tup l) (.tuple xs.toArray)
  | nils : RepA M .nils (.slice none 0 0)
  | nocap (A : Option Addr) : RepA M .nocap (.slice A 0 0)
  | ptr (id ver row off : Nat) (b : Blk) (q : Option Addr) (hb : M.hp[id]? = some b) (hv : ver ≤ b.rows.length) (hx : ver = b.rows.length → ∃ g, M.γ id = some g ∧ q = some ⟨g, row * b.sz + off, none⟩) : RepA M (.ptr id ver row off) (.pointer q)
  | os (id n : Nat) (b : Blk) (A : Option Addr) (k c : Nat) (hb : M.hp[id]? = some b) (hv : n ≤ b.rows.length) (hx : n = b.rows.length → A = (M.γ id).map (fun g => ⟨g, 0, none⟩) ∧ k = n ∧ c = M.κ id) : RepA M (.os id n) (.slice A k c)
  | pin (l : List IV) (ad : Addr) (ys : List Value) (h0 : l ≠ []) (hb : ¬ M.N ad.block) (hy : CellsAt M.W ad ys) (h : All2 (RepI M.W M.N) l ys) : RepA M (.pin l) (.pointer (some ad))
  | fn (f : Nat) (caps : List AV) (xs : List Value) (h : All2 (RepA M) caps xs) : RepA M (.fn f caps) (.func (.func f) #[] xs.toArray)
  | undef : RepA M .undef undef
  | mp (g : Nat) (ks vs : List (List IV)) (h : MapAt M.W M.N g ks vs) : RepA M (.mp g ks vs) (.map (some g))
  | mpi (g : Nat) (ks vs : List (List IV)) (h : MapAt M.W M.N g ks vs) : RepA M (.mpi ks vs) (.map (some g))
theorem RepA.one {M : Mm} {v : AV} {x : Value} (h : RepA M v x) (hc : v.cell = true) : x.oneCell' = true := by
  cases h <;> first | rfl | (simp [AV.cell] at hc; done) | (rename_i h; exact h.one)
theorem RepA.single {M : Mm} {v : AV} {x : Value} (h : RepA M v x) (hc : v.cell = true) : x.cells = #[x] := by
  cases h <;> first | rfl | (simp [AV.cell] at hc; done) | (rename_i h; exact h.not_agg)
theorem RepA.notMap {M : Mm} {v : AV} {x : Value} (h : RepA M v x) (hc : v.cell = true) : A.notMap x = true := by
  cases h <;> first
    | rfl
    | (simp [AV.cell] at hc; done)
    | (rename_i h; exact h.notMap)
structure Keep (M M' : Mm) : Prop where
  imm : ∀ b, ¬ M.N b → (∃ o, M.W.heap[b]? = some o) → M'.W.heap[b]? = M.W.heap[b]? ∧ ¬ M'.N b
  blk : ∀ id b, M.hp[id]? = some b → ∃ b', M'.hp[id]? = some b' ∧ b'.sz = b.sz ∧ b.rows.length ≤ b'.rows.length ∧ (b.rows.length = b'.rows.length → M'.γ id = M.γ id ∧ M'.κ id = M.κ id)
theorem RepA.keep {M M' : Mm} (hk : Keep M M') {v : AV} {x : Value} (h : RepA M v x) : RepA M' v x := by
  refine RepA.rec (motive_1 := fun v x _ => RepA M' v x) (motive_2 := fun vs xs _ => All2 (RepA M') vs xs) ?_ (fun l xs _ h => .agg l xs h) (fun l xs _ h => .tup l xs h) .nils (fun A => .nocap A) ?_ ?_ ?_ (fun f caps xs _ h => .fn f caps xs h) .undef (fun g ks vs h => .mp g ks vs (h.keep hk.imm)) (fun g ks vs h => .mpi g ks vs (h.keep hk.imm)) .nil (fun _ _ h1 h2 => .cons h1 h2) h
  · intro v x h; exact .imm v x (h.keep hk.imm)
  · intro id ver row off b q hb hv hx
    obtain ⟨b', e1, e2, e3, e4⟩ := hk.blk id b hb
    refine .ptr id ver row off b' q e1 (Nat.le_trans hv e3) fun hver => ?_
    have h1 : ver = b.rows.length := by omega
    obtain ⟨e5, e6⟩ := e4 (by omega)
    obtain ⟨g, hg, hq⟩ := hx h1
    exact ⟨g, by rw [e5]; exact hg, by rw [e2]; exact hq⟩
  · intro id n b A k c hb hv hx
    obtain ⟨b', e1, e2, e3, e4⟩ := hk.blk id b hb
    refine .os id n b' A k c e1 (Nat.le_trans hv e3) fun hver => ?_
    have h1 : n = b.rows.length := by omega
    obtain ⟨e5, e6⟩ := e4 (by omega)
    obtain ⟨h2, h3, h4⟩ := hx h1
    exact ⟨by rw [e5]; exact h2, h3, by rw [e6]; exact h4⟩
  · intro l ad ys h0 hb hy h
    have hne : ys ≠ [] := by
      intro e
      have := h.length
      rw [e] at this
      exact h0 (List.length_eq_zero_iff.1 (by simpa using this))
    have := hk.imm ad.block hb (hy.block hne)
    exact .pin l ad ys h0 this.2 (hy.keep fun _ => this.1) (h.mono fun _ _ h => h.keep hk.imm)
/-- An own block is in memory as it should be. -/
structure BlkOK (M : Mm) (id : Nat) (b : Blk) : Prop where
  pos : 0 < b.sz
  rows : ∀ r ∈ b.rows, r.length = b.sz
  cell : ∀ c ∈ b.rows.flatten, c.cell = true
  cap : b.rows.length ≤ M.κ id
  capm : M.κ id ≤ maxLen
  mem : (M.γ id = none ∧ b.rows = [] ∧ M.κ id = 0) ∨ ∃ g ys sp, M.γ id = some g ∧ M.W.heap[g]? = some (.cells (ys ++ sp).toArray b.ty (0, 0)) ∧ (ys ++ sp).length = M.κ id * b.sz ∧ All2 (RepA M) b.rows.flatten ys

def get : List (Nat × AV) → Nat → Option AV
  | [], _ => none
  | (d, v) :: r, t => match Nat.beq d t with | true => some v | false => get r t
structure St where
  env : List (Nat × AV)
  hp : List Blk
structure Cx where
  P : Program
  X : Nat → Prop
  hp0 : List Blk
  γ0 : Nat → Option Nat
  κ0 : Nat → Nat
  may : Nat → Prop
  w0 : World
  nt : Nat
def nset (X : Nat → Prop) (γ : Nat → Option Nat) (n : Nat) (b : Nat) : Prop := X b ∨ ∃ id, id < n ∧ γ id = some b
def St.mm (s : St) (C : Cx) (γ : Nat → Option Nat) (κ : Nat → Nat) (W : World) : Mm := ⟨W, nset C.X γ s.hp.length, γ, κ, s.hp⟩
/-- The blocks that the call was lent are there; those that haven't grown lie where they lay. -/
def LentP (C : Cx) (hp : List Blk) (γ : Nat → Option Nat) (κ : Nat → Nat) : Prop :=
  ∀ i b0, C.hp0[i]? = some b0 → ∃ b, hp[i]? = some b ∧ b.sz = b0.sz ∧ b0.rows.length ≤ b.rows.length ∧ (b0.rows.length = b.rows.length → γ i = C.γ0 i ∧ κ i = C.κ0 i)
theorem LentP.keep {C : Cx} {s s' : St} {γ γ' : Nat → Option Nat} {κ κ' : Nat → Nat} {W W' : World} (h : LentP C s.hp γ κ) (hk : Keep (s.mm C γ κ W) (s'.mm C γ' κ' W')) : LentP C s'.hp γ' κ' := by
  intro i b0 hb0
  obtain ⟨b, h1, h2, h3, h4⟩ := h i b0 hb0
  obtain ⟨b', k1, k2, k3, k4⟩ := hk.blk i b h1
  refine ⟨b', k1, k2.trans h2, Nat.le_trans h3 k3, fun e => ?_⟩
  obtain ⟨e1, e2⟩ := h4 (by omega)
  obtain ⟨e3, e4⟩ := k4 (by omega)
  exact ⟨Eq.trans e3 e1, Eq.trans e4 e2⟩
structure Conc (C : Cx) (s : St) (γ : Nat → Option Nat) (κ : Nat → Nat) (a : Act) (W : World) : Prop where
  size : a.tmps.size = C.nt
  defers : a.defers = []
  env : ∀ t v, get s.env t = some v → ∃ x, a.tmps[t]? = some x ∧ RepA (s.mm C γ κ W) v x
  blk : ∀ id b, s.hp[id]? = some b → BlkOK (s.mm C γ κ W) id b
  inj : ∀ i j g, i < s.hp.length → j < s.hp.length → γ i = some g → γ j = some g → i = j
  own : ∀ id g, id < s.hp.length → γ id = some g → ¬ C.X g ∧ (C.w0.heap.size ≤ g ∨ C.may g)
  xlt : ∀ b, C.X b → b < C.w0.heap.size
  old : ∀ b, b < C.w0.heap.size → ¬ C.may b → W.heap[b]? = C.w0.heap[b]?
  hos : W.os = C.w0.os
  htape : W.tape = C.w0.tape
  hout : W.output = C.w0.output
  hsize : C.w0.heap.size ≤ W.heap.size
  lent : LentP C s.hp γ κ
def CQ (C : Cx) (Q : Exit → St → Prop) : Exit → Act → World → Prop := fun e a W => ∃ s γ κ, Conc C s γ κ a W ∧ Q e s
def AW (C : Cx) (c : Code) (Q : Exit → St → Prop) (s : St) : Prop := ∀ γ κ a W, Conc C s γ κ a W → c.wp C.P (CQ C Q) a W
def AL (C : Cx) (l : List Oper) (Q : Exit → St → Prop) (rest : List Oper) (s : St) : Prop := ∀ γ κ a W, Conc C s γ κ a W → wpList C.P l.toArray (CQ C Q) rest a W
def Then (n : St → Prop) (Q : Exit → St → Prop) : Exit → St → Prop
  | .normal, s => n s
  | e, s => Q e s
def InB (id : Nat) (Q : Exit → St → Prop) : Exit → St → Prop
  | .exit i, s => if i = id then Q .normal s else Q (.exit i) s
  | e, s => Q e s
section
variable {C : Cx} {Q : Exit → St → Prop} {s : St}
theorem AW.mono {c : Code} {Q' : Exit → St → Prop} (h : AW C c Q s) (hq : ∀ e s, Q e s → Q' e s) : AW C c Q' s :=
  fun γ κ a W hC => wp_mono (h γ κ a W hC) fun e a W ⟨s, γ, κ, h1, h2⟩ => ⟨s, γ, κ, h1, hq _ _ h2⟩
theorem AW.seq {x y : Code} (h : AW C x (Then (AW C y Q) Q) s) : AW C (.seq x y) Q s := by
  intro γ κ a W hC
  refine wp_seq (wp_mono (h γ κ a W hC) fun e a W ⟨s, γ, κ, h1, h2⟩ => ?_)
  cases e with
  | normal => exact h2 γ κ a W h1
  | _ => exact ⟨s, γ, κ, h1, h2⟩
theorem AW.skip (h : Q .normal s) : AW C .skip Q s := fun γ κ a W hC => wp_skip ⟨s, γ, κ, hC, h⟩
theorem AW.exit {id : Nat} (h : Q (.exit id) s) : AW C (.exit id) Q s := fun γ κ a W hC => wp_exit ⟨s, γ, κ, hC, h⟩
theorem AW.ret (h : Q .ret s) : AW C .ret Q s := fun γ κ a W hC => wp_ret ⟨s, γ, κ, hC, h⟩
theorem AW.block {id : Nat} {c : Code} (h : AW C c (InB id Q) s) : AW C (.block id c) Q s := by
  intro γ κ a W hC
  refine wp_block (wp_mono (h γ κ a W hC) fun e a W ⟨s, γ, κ, h1, h2⟩ => ?_)
  cases e with
  | exit i =>
    simp only [Exit.inBlock]
    simp only [InB] at h2
    split
    · rename_i e; rw [if_pos e] at h2; exact ⟨s, γ, κ, h1, h2⟩
    · rename_i e; rw [if_neg e] at h2; exact ⟨s, γ, κ, h1, h2⟩
  | _ => exact ⟨s, γ, κ, h1, h2⟩
theorem AW.region {id : Nat} {l : List Oper} (h : AL C l Q l s) : AW C (.region id l.toArray false) Q s :=
  fun γ κ a W hC => wp_region_list (by simpa using h γ κ a W hC)
theorem AL.nil {l : List Oper} (h : Q .normal s) : AL C l Q [] s := fun γ κ a W hC => wpList_nil ⟨s, γ, κ, hC, h⟩
theorem Then.norm {n : St → Prop} (h : n s) : Then n Q .normal s := h
theorem Then.ret {n : St → Prop} (h : Q .ret s) : Then n Q .ret s := h
theorem Then.exit {n : St → Prop} {id : Nat} (h : Q (.exit id) s) : Then n Q (.exit id) s := h
theorem InB.norm {id : Nat} (h : Q .normal s) : InB id Q .normal s := h
theorem InB.ret {id : Nat} (h : Q .ret s) : InB id Q .ret s := h
theorem InB.here {id : Nat} (h : Q .normal s) : InB id Q (.exit id) s := by unfold InB; simpa using h
theorem InB.off {id i : Nat} (hi : Nat.beq i id = false) (h : Q (.exit i) s) : InB id Q (.exit i) s := by
  have : i ≠ id := fun e => by subst e; simp at hi
  unfold InB; simpa [this] using h

def St.ev (s : St) : Operand → Option AV
  | .tmp t => get s.env t
  | .const (.int k n) => some (.imm (.int k n))
  | .const (.bool b) => some (.imm (.bool b))
  | .const (.string t) => some (.imm (.str t))
  | .const (.slice none 0 0) => some .nils
  | .const (.pointer none) => some (.imm .nilp)
  | .const .nilFunc => some (.imm .nilf)
  | .func f => some (.imm (.fn f))
  | _ => none
theorem Conc.ev {γ : Nat → Option Nat} {κ : Nat → Nat} {a : Act} {W : World} (hC : Conc C s γ κ a W) {x : Operand} {v : AV} (h : s.ev x = some v) : RepA (s.mm C γ κ W) v (a.eval x) := by
  unfold St.ev at h
  split at h
  · obtain ⟨x, h1, h2⟩ := hC.env _ _ h
    show RepA _ _ (a.tmps.getD _ undef)
    rw [Array.getD_eq_getD_getElem?, h1]
    exact h2
  all_goals first | (cases h; done) | (obtain rfl := Option.some.inj h; first | exact .imm _ _ (.int _ _) | exact .imm _ _ (.bool _) | exact .imm _ _ (.str _) | exact .nils | exact .imm _ _ .nilp | exact .imm _ _ .nilf | exact .imm _ _ (.fn _))
theorem AW.cond {c : Operand} {x y : Code} {b : Bool} (hc : s.ev c = some (.imm (.bool b))) (h1 : b = true → AW C x Q s) (h2 : b = false → AW C y Q s) : AW C (.cond c x y) Q s := by
  intro γ κ a W hC
  have h := hC.ev hc
  cases h with
  | imm v x h =>
    have := h.bool_inv
    exact wp_cond_split (t := b) this (fun e => h1 e γ κ a W hC) (fun e => h2 e γ κ a W hC)
/-- s says no less than s1. -/
def Le (C : Cx) (s s1 : St) : Prop := ∀ γ κ a W, Conc C s γ κ a W → ∃ γ' κ', Conc C s1 γ' κ' a W
theorem Le.refl (C : Cx) (s : St) : Le C s s := fun γ κ a W h => ⟨γ, κ, h⟩
theorem AW.weak {c : Code} {s1 : St} (hle : Le C s s1) (h : AW C c Q s1) : AW C c Q s :=
  fun γ κ a W hC => let ⟨γ', κ', h'⟩ := hle γ κ a W hC; h γ' κ' a W h'
theorem AL.weak {l rest : List Oper} {s1 : St} (hle : Le C s s1) (h : AL C l Q rest s1) : AL C l Q rest s :=
  fun γ κ a W hC => let ⟨γ', κ', h'⟩ := hle γ κ a W hC; h γ' κ' a W h'
/-- A loop: at its head the state is mk x, of an x with Inv; a round comes to another one of lesser measure, or leaves. -/
def Rnd (C : Cx) {α : Type} (mk : α → St) (Inv : α → Prop) (μ : α → Nat) (Q : Exit → St → Prop) (m : Nat) : Exit → St → Prop
  | .normal, s => ∃ y, Le C s (mk y) ∧ Inv y ∧ μ y < m
  | e, s => Q e s
theorem Rnd.norm {α : Type} {mk : α → St} {Inv : α → Prop} {μ : α → Nat} {m : Nat} (y : α) (h1 : Le C s (mk y)) (h2 : Inv y) (h3 : μ y < m) : Rnd C mk Inv μ Q m .normal s := ⟨y, h1, h2, h3⟩
theorem Rnd.ret {α : Type} {mk : α → St} {Inv : α → Prop} {μ : α → Nat} {m : Nat} (h : Q .ret s) : Rnd C mk Inv μ Q m .ret s := h
theorem Rnd.exit {α : Type} {mk : α → St} {Inv : α → Prop} {μ : α → Nat} {m : Nat} {id : Nat} (h : Q (.exit id) s) : Rnd C mk Inv μ Q m (.exit id) s := h
theorem AW.loop {α : Type} {body : Code} (mk : α → St) (Inv : α → Prop) (μ : α → Nat) (x0 : α) (hle : Le C s (mk x0)) (h0 : Inv x0)
    (round : ∀ x, Inv x → AW C body (Rnd C mk Inv μ Q (μ x)) (mk x)) : AW C (.loop body) Q s := by
  intro γ κ a W hC
  have key : ∀ n : Nat, ∀ x, μ x = n → Inv x → ∀ γ κ a W, Conc C (mk x) γ κ a W → (Code.loop body).wp C.P (CQ C Q) a W := by
    intro n x _ hI γ κ a W hC
    let J : Nat → Act → World → Prop := fun m a W => ∃ x γ κ, Inv x ∧ μ x = m ∧ Conc C (mk x) γ κ a W
    refine wp_loop_ghost J (μ x) ⟨x, γ, κ, hI, rfl, hC⟩ ?_
    intro m a W hJ
    obtain ⟨x, γ, κ, hI, hm, hC⟩ := hJ
    refine wp_mono (round x hI γ κ a W hC) ?_
    rintro e a' W' ⟨s', γ', κ', hC', hR⟩
    cases e with
    | normal =>
      obtain ⟨y, hle, hIy, hlt⟩ := hR
      obtain ⟨γ2, κ2, hC2⟩ := hle _ _ _ _ hC'
      exact ⟨μ y, by omega, y, γ2, κ2, hIy, rfl, hC2⟩
    | _ => exact ⟨s', γ', κ', hC', hR⟩
  obtain ⟨γ', κ', hC'⟩ := hle γ κ a W hC
  exact key _ x0 rfl h0 γ' κ' a W hC'
end
end Go.Proofs.YteijifoobaoclaaGreat.A
