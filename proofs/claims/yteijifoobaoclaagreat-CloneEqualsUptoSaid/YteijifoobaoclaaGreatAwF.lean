/- The abstract walk, part F: one operation, as a function of the state; it is the machine's. -/
import Derived.Test.YteijifoobaoclaaGreatAwE
namespace Go.Proofs.YteijifoobaoclaaGreat.A
open Go.RowKit
set_option linter.unusedVariables false
set_option linter.unusedSimpArgs false

def dok (nt : Nat) : Option Nat → Bool
  | none => true
  | some d => Nat.blt d nt
def St.put (s : St) (dst : Option Nat) (v : AV) : St :=
  match dst with
  | some d => (match s with
    | ⟨e, h⟩ => ⟨(d, v) :: e, h⟩)
  | none => s
theorem Conc.put {C : Cx} {s : St} {γ : Nat → Option Nat} {κ : Nat → Nat} {a : Act} {W : World} (hC : Conc C s γ κ a W) {dst : Option Nat} (hd : dok C.nt dst = true) {v : AV} {x : Value} (hv : RepA (s.mm C γ κ W) v x) : Conc C (s.put dst v) γ κ (a.put dst x) W := by
  cases dst with
  | none => exact hC
  | some d =>
    have hlt : d < C.nt := by
      have h : Nat.blt d C.nt = true := hd
      rw [Nat.blt_eq] at h; exact h
    refine ⟨by simp [Act.put, hC.size], hC.defers, ?_, hC.blk, hC.inj, hC.own, hC.xlt, hC.old, hC.hos, hC.htape, hC.hout, hC.hsize, hC.lent⟩
    intro t u h
    replace h : get ((d, v) :: s.env) t = some u := h
    simp only [get] at h
    split at h
    · rename_i e
      have e := Nat.eq_of_beq_eq_true e
      subst e
      obtain rfl := Option.some.inj h
      refine ⟨x, ?_, hv⟩
      simp only [Act.put]
      rw [Array.getElem?_setIfInBounds_self_of_lt (by rw [hC.size]; exact hlt)]
    · rename_i e
      have e : d ≠ t := fun e' => by subst e'; simp at e
      obtain ⟨y, h1, h2⟩ := hC.env t u h
      refine ⟨y, ?_, h2⟩
      simp only [Act.put]
      rw [Array.getElem?_setIfInBounds_ne e]
      exact h1
section
variable {C : Cx} {s : St} {γ : Nat → Option Nat} {κ : Nat → Nat} {a : Act} {W : World} {o : Oper} {T : List (Nat × TI)}
/-- What is asked of an operation: it comes to the state s'. -/
def OpOK (C : Cx) (s : St) (o : Oper) (s' : St) : Prop := ∀ γ κ a W, Conc C s γ κ a W → ∀ (K : Act → World → Prop) (Q : Exit → Act → World → Prop), (∀ γ' κ' a' W', Conc C s' γ' κ' a' W' → K a' W') → o.wp C.P a W K Q
theorem OpOK.val {s1 : St} {v : AV} (hd : dok C.nt o.dst = true)
    (h : ∀ γ κ a W, Conc C s γ κ a W → ∃ x γ' κ' W', (execOp a.eval o).run C.P W = .ok (.value x) W' ∧ Conc C s1 γ' κ' a W' ∧ RepA (s1.mm C γ' κ' W') v x) : OpOK C s o (s1.put o.dst v) := by
  intro γ κ a W hC K Q hK
  obtain ⟨x, γ', κ', W', h1, h2, h3⟩ := h γ κ a W hC
  unfold Oper.wp
  rw [h1]
  exact hK γ' κ' _ _ (h2.put hd h3)
theorem OpOK.quiet {v : AV} (hd : dok C.nt o.dst = true)
    (h : ∀ γ κ a W, Conc C s γ κ a W → ∃ x, (execOp a.eval o).run C.P W = .ok (.value x) W ∧ RepA (s.mm C γ κ W) v x) : OpOK C s o (s.put o.dst v) :=
  OpOK.val hd fun γ κ a W hC => let ⟨x, h1, h2⟩ := h γ κ a W hC; ⟨x, γ, κ, W, h1, hC, h2⟩
theorem OpOK.skip {s1 : St} (hd : o.dst = none)
    (h : ∀ γ κ a W, Conc C s γ κ a W → ∃ γ' κ' W', (execOp a.eval o).run C.P W = .ok .skip W' ∧ Conc C s1 γ' κ' a W') : OpOK C s o s1 := by
  intro γ κ a W hC K Q hK
  obtain ⟨γ', κ', W', h1, h2⟩ := h γ κ a W hC
  unfold Oper.wp
  rw [h1]
  show K (a.put o.dst undef) W'
  rw [hd]
  exact hK γ' κ' _ _ h2
theorem run_pure {α : Type} {P : Program} (x : α) (w : World) : (pure x : Sem α).run P w = .ok x w := rfl
theorem val_run {P : Program} {m : Sem Value} {x : Value} {w w' : World} (h : m.run P w = .ok x w') : (do pure (Next.value (← m)) : Sem Next).run P w = .ok (.value x) w' := by
  rw [run_bind h]; rfl
theorem unit_run {P : Program} {m : Sem Unit} {w w' : World} (h : m.run P w = .ok () w') : (do m; pure Next.skip : Sem Next).run P w = .ok .skip w' := by
  rw [run_bind h]; rfl

-- operations that read
def aLoad (T : List (Nat × TI)) (s : St) (t : TypeId) (p : AV) : Option AV :=
  match look T t with
  | none => none
  | some i => match p with
    | .ptr id ver row off => match nth s.hp id with
      | none => none
      | some b => match Nat.beq ver (len b.rows) with
        | false => none
        | true => match nth b.rows row with
          | none => none
          | some r => ldRow i b.sz r off
    | .pin l => ldPin i l
    | _ => none
theorem OpOK.load_own (hT : TsOK C.P T) (hd : dok C.nt o.dst = true) {t : TypeId} {p : Operand} (ho : o.op = .load t p) {i : TI} (hi : look T t = some i) {id ver row off : Nat} (hp : s.ev p = some (.ptr id ver row off))
    {b : Blk} (hb : nth s.hp id = some b) (hver : ver = b.rows.length) {r : List AV} (hr : b.rows[row]? = some r) {v : AV} (hl : ldRow i b.sz r off = some v) : OpOK C s o (s.put o.dst v) :=
  OpOK.quiet hd fun γ κ a W hC => by
    rw [nth_eq] at hb
    obtain ⟨y, h1, h2⟩ := ld_own hC (hT t i hi) hb hver hr hl (hC.ev hp)
    refine ⟨y, ?_, h2⟩
    unfold execOp; rw [ho]
    exact val_run h1
theorem OpOK.load (hT : TsOK C.P T) (hd : dok C.nt o.dst = true) {t : TypeId} {p : Operand} (ho : o.op = .load t p) {q : AV} (hp : s.ev p = some q) {v : AV} (h : aLoad T s t q = some v) : OpOK C s o (s.put o.dst v) := by
  unfold aLoad at h
  split at h
  · cases h
  · rename_i i hi
    split at h
    · rename_i id ver row off
      split at h
      · cases h
      · rename_i b hb
        split at h
        · cases h
        · rename_i hver
          have hver := Nat.eq_of_beq_eq_true hver
          rw [len_eq] at hver
          split at h
          · cases h
          · rename_i r hr
            rw [nth_eq] at hr
            exact OpOK.load_own hT hd ho hi hp hb hver hr h
    · rename_i l
      refine OpOK.quiet hd fun γ κ a W hC => ?_
      obtain ⟨y, h1, h2⟩ := ld_pin (hT t i hi) h (hC.ev hp)
      refine ⟨y, ?_, h2⟩
      unfold execOp; rw [ho]
      exact val_run h1
    · cases h
theorem OpOK.move {x : Operand} (hd : dok C.nt o.dst = true) (ho : o.op = .move x) {v : AV} (hx : s.ev x = some v) : OpOK C s o (s.put o.dst v) :=
  OpOK.quiet hd fun γ κ a W hC => ⟨_, by unfold execOp; rw [ho]; rfl, hC.ev hx⟩
theorem OpOK.assign {x : Operand} (hd : dok C.nt o.dst = true) (ho : o.op = .assign x) {v : AV} (hx : s.ev x = some v) : OpOK C s o (s.put o.dst v) :=
  OpOK.quiet hd fun γ κ a W hC => ⟨_, by unfold execOp; rw [ho]; rfl, hC.ev hx⟩
def pk (b : Bool) (x y : Operand) : Operand := match b with
  | true => x
  | false => y
theorem OpOK.pick {c x y : Operand} (hd : dok C.nt o.dst = true) (ho : o.op = .pick c x y) {b : Bool} (hc : s.ev c = some (.imm (.bool b))) {v : AV} (hx : s.ev (pk b x y) = some v) : OpOK C s o (s.put o.dst v) :=
  OpOK.quiet hd fun γ κ a W hC => by
    have h := hC.ev hc
    cases h with
    | imm _ _ h =>
      have e := h.bool_inv
      have h2 := hC.ev hx
      refine ⟨_, ?_, h2⟩
      unfold execOp; rw [ho]
      simp only [e]
      cases b <;> rfl
def aField (T : List (Nat × TI)) (t : TypeId) (f : Nat) (v : AV) : Option AV :=
  match look T t with
  | none => none
  | some i => match i.isAgg with
    | false => none
    | true => match nth i.flds f with
      | none => none
      | some (o, n, g) => match v with
        | .agg l => match g with
          | true => some (.agg ((l.drop o).take n))
          | false => nth l o
        | _ => none
theorem field_run {P : Program} {t : TypeId} {fs : Array Field} {fd : Field} {f : Nat} (h1 : P.underlying t = some (.struct fs)) (h2 : fs[f]? = some fd) {xs : Array Value} {z : Value} {w : World} (hz : (part fd.type xs fd.offset).run P w = .ok z w) : (Instr.field t (.agg xs) f).run P w = .ok z w := by
  unfold Instr.field underlying
  simp only [program]
  simp only [asAgg]
  simpa [h1, h2, bind, Sem.bind, pure, Sem.run] using hz
theorem part_agg {P : Program} {t : TypeId} {n : Nat} {w : World} (h1 : (Go.isAgg t).run P w = .ok true w) (h2 : (Go.sizeOf t).run P w = .ok n w) (xs : List Value) (off : Nat) : (part t xs.toArray off).run P w = .ok (.agg ((xs.drop off).take n).toArray) w := by
  unfold part
  rw [run_bind h1]
  simp only [if_true]
  rw [run_bind h2]
  rw [run_pure]
  congr 2
  simp [List.extract_eq_take_drop]
theorem part_one {P : Program} {t : TypeId} {w : World} (h1 : (Go.isAgg t).run P w = .ok false w) (xs : List Value) (off : Nat) {y : Value} (hy : xs[off]? = some y) : (part t xs.toArray off).run P w = .ok y w := by
  unfold part
  rw [run_bind h1]
  simp only [Bool.false_eq_true, if_false, List.getElem?_toArray, hy]
  rfl
theorem OpOK.field (hT : TsOK C.P T) (hd : dok C.nt o.dst = true) {t : TypeId} {x : Operand} {f : Nat} (ho : o.op = .field t x f) {q : AV} (hx : s.ev x = some q) {v : AV} (h : aField T t f q = some v) : OpOK C s o (s.put o.dst v) := by
  unfold aField at h
  split at h
  · cases h
  · rename_i i hi
    split at h
    · cases h
    · rename_i ha
      split at h
      · cases h
      · rename_i off n g hf
        rw [nth_eq] at hf
        obtain ⟨fs, fd, h1, h2, h3, h4, h5⟩ := (hT t i hi).fld ha hf
        split at h
        · rename_i l
          refine OpOK.quiet hd fun γ κ a W hC => ?_
          have hq := hC.ev hx
          have hex : ∀ z, (Instr.field t (a.eval x) f).run C.P W = .ok z W → (execOp a.eval o).run C.P W = .ok (.value z) W := by
            intro z hz
            unfold execOp; rw [ho]
            exact val_run hz
          generalize a.eval x = y at hq hex
          cases hq with
          | agg _ xs hl =>
            split at h
            · obtain rfl := Option.some.inj h
              exact ⟨_, hex _ (field_run h1 h2 (part_agg (h5 W) (h4 W) xs _)), .agg _ _ (by rw [h3]; exact (hl.drop off).take n)⟩
            · rw [nth_eq] at h
              obtain ⟨y, h6, h7⟩ := hl.get h
              exact ⟨y, hex _ (field_run h1 h2 (part_one (h5 W) xs _ (by rw [h3]; exact h6))), h7⟩
        · cases h
def aFieldAddr (T : List (Nat × TI)) (t : TypeId) (f : Nat) (v : AV) : Option AV :=
  match look T t with
  | none => none
  | some i => match i.isAgg with
    | false => none
    | true => match nth i.flds f with
      | none => none
      | some (o, n, g) => match Nat.beq n 0 with
        | true => none
        | false => match v with
          | .ptr id ver row off => some (.ptr id ver row (off + o))
          | .pin l => match l.drop o with
            | [] => none
            | c :: r => some (.pin (c :: r))
          | _ => none
theorem fieldAt_run {P : Program} {t : TypeId} {fs : Array Field} {fd : Field} {f n : Nat} (h1 : P.underlying t = some (.struct fs)) (h2 : fs[f]? = some fd) (h4 : ∀ w, (Go.sizeOf fd.type).run P w = .ok n w) (hn : n ≠ 0) (ad : Addr) (w : World) :
    (Instr.fieldAt t (.pointer (some ad)) f).run P w = .ok (.pointer (some (ad.add fd.offset))) w := by
  unfold Instr.fieldAt underlying
  simp only [program]
  have h5 : (fieldPlace ad fd).run P w = .ok (ad.add fd.offset) w := by
    unfold fieldPlace
    rw [run_bind (h4 w), if_neg hn]
    rfl
  have h6 := run_bind (P := P) (f := fun q => (pure (Value.pointer (some q)) : Sem Value)) h5
  simp only [Instr.sureAddr]
  simpa [h1, h2, bind, Sem.bind, pure, Sem.run] using h6
theorem CellsAt.drop {W : World} {ad : Addr} {ys : List Value} (h : CellsAt W ad ys) (o : Nat) : CellsAt W (ad.add o) (ys.drop o) := by
  intro i y hy
  rw [List.getElem?_drop] at hy
  rw [Addr.add_add]
  exact h _ _ hy
theorem RepA.ptr_val {M : Mm} {id ver row off : Nat} {b : Blk} {x : Value} (h : RepA M (.ptr id ver row off) x) (hb : M.hp[id]? = some b) (hver : ver = b.rows.length) : ∃ g, M.γ id = some g ∧ x = .pointer (some ⟨g, row * b.sz + off, none⟩) := by
  cases h with
  | ptr _ _ _ _ b' q hb' hv hx =>
    rw [hb] at hb'; cases hb'
    obtain ⟨g, h1, h2⟩ := hx hver
    exact ⟨g, h1, by rw [h2]⟩
theorem OpOK.fieldAddr_own (hT : TsOK C.P T) (hd : dok C.nt o.dst = true) {t : TypeId} {x : Operand} {f : Nat} (ho : o.op = .fieldAddr t x f) {i : TI} (hi : look T t = some i) (ha : i.isAgg = true) {off n : Nat} {g : Bool} (hf : nth i.flds f = some (off, n, g)) (hn : n ≠ 0)
    {id ver row o' : Nat} (hx : s.ev x = some (.ptr id ver row o')) {b : Blk} (hb : s.hp[id]? = some b) (hver : ver = b.rows.length) : OpOK C s o (s.put o.dst (.ptr id ver row (o' + off))) :=
  OpOK.quiet hd fun γ κ a W hC => by
    rw [nth_eq] at hf
    obtain ⟨fs, fd, h1, h2, h3, h4, h5⟩ := (hT t i hi).fld ha hf
    obtain ⟨g, hg, e⟩ := (hC.ev hx).ptr_val hb hver
    have hrun := fieldAt_run h1 h2 h4 hn ⟨g, row * b.sz + o', none⟩ W
    refine ⟨_, ?_, .ptr id ver row (o' + off) b _ hb (Nat.le_of_eq hver) fun _ => ⟨g, hg, rfl⟩⟩
    unfold execOp; rw [ho]
    simp only
    rw [e]
    have := val_run hrun
    rw [h3] at this
    have e2 : (⟨g, row * b.sz + o', none⟩ : Addr).add off = ⟨g, row * b.sz + (o' + off), none⟩ := by unfold Addr.add; split <;> simp_all [Nat.add_assoc]
    rw [e2] at this
    exact this
def curB (s : St) (q : AV) : Bool :=
  match q with
  | .ptr id ver _ _ => (match nth s.hp id with
    | some b => Nat.beq ver (len b.rows)
    | none => false)
  | _ => true
theorem OpOK.fieldAddr (hT : TsOK C.P T) (hd : dok C.nt o.dst = true) {t : TypeId} {x : Operand} {f : Nat} (ho : o.op = .fieldAddr t x f) {q : AV} (hx : s.ev x = some q) (hcur : curB s q = true)
    {v : AV} (h : aFieldAddr T t f q = some v) : OpOK C s o (s.put o.dst v) := by
  unfold aFieldAddr at h
  split at h
  · cases h
  · rename_i i hi
    split at h
    · cases h
    · rename_i ha
      split at h
      · cases h
      · rename_i off n g hf
        split at h
        · cases h
        · rename_i hn
          have hn : n ≠ 0 := fun e => by subst e; simp at hn
          split at h
          · rename_i id ver row o'
            simp only [curB] at hcur
            split at hcur
            · rename_i b hb
              have hver := Nat.eq_of_beq_eq_true hcur
              rw [len_eq] at hver
              rw [nth_eq] at hb
              obtain rfl := Option.some.inj h
              exact OpOK.fieldAddr_own hT hd ho hi ha hf hn hx hb hver
            · cases hcur
          · rename_i l
            split at h
            · cases h
            · rename_i c r hl
              obtain rfl := Option.some.inj h
              refine OpOK.quiet hd fun γ κ a W hC => ?_
              have hq := hC.ev hx
              have hex : ∀ z, (Instr.fieldAt t (a.eval x) f).run C.P W = .ok z W → (execOp a.eval o).run C.P W = .ok (.value z) W := by
                intro z hz
                unfold execOp; rw [ho]
                exact val_run hz
              generalize a.eval x = y at hq hex
              rw [nth_eq] at hf
              obtain ⟨fs, fd, h1, h2, h3, h4, h5⟩ := (hT t i hi).fld ha hf
              cases hq with
              | pin _ ad ys h0 hb hy hrep =>
                refine ⟨_, hex _ (fieldAt_run h1 h2 h4 hn ad W), ?_⟩
                rw [h3]
                exact .pin _ _ (ys.drop off) (by simp) (by rw [add_block]; exact hb) (hy.drop off) (by rw [← hl]; exact hrep.drop off)
          · cases h
-- allocations
def aNew (s : St) (ty : TypeId) (cells : List AV) (sz : Nat) : Option (AV × St) :=
  match Nat.blt 0 sz && Nat.beq (len cells) sz && cells.all AV.cell with
  | true => (match s with
    | ⟨e, h⟩ => some (.ptr (len h) 1 0 0, ⟨e, h ++ [⟨ty, sz, [cells]⟩]⟩))
  | false => none
theorem new_ok (hC : Conc C s γ κ a W) {cells : List AV} {sz : Nat} {v : AV} {s1 : St} {ty : TypeId} (h : aNew s ty cells sz = some (v, s1)) {xs : List Value} (hrep : All2 (RepA (s.mm C γ κ W)) cells xs) :
    ∃ γ' κ', Conc C s1 γ' κ' a (W.alloc (.cells xs.toArray ty)) ∧ RepA (s1.mm C γ' κ' (W.alloc (.cells xs.toArray ty))) v (.pointer (some ⟨W.heap.size, 0, none⟩)) := by
  unfold aNew at h
  split at h
  · rename_i hc
    simp only [Bool.and_eq_true, Nat.blt_eq, List.all_eq_true] at hc
    obtain ⟨⟨h1, h2⟩, h3⟩ := hc
    have h2 := Nat.eq_of_beq_eq_true h2
    rw [len_eq] at h2
    obtain ⟨rfl, rfl⟩ : _ = v ∧ _ = s1 := by simpa using h
    obtain ⟨γ', κ', c1, c2, c3, c4⟩ := hC.alloc ⟨ty, sz, [cells]⟩ xs [] 1 h1 (by simpa using h2) (by simpa using h3) (by simp) (by decide) (by simp [← hrep.length, h2]) (by simpa using hrep)
    simp only [List.append_nil] at c1 c4
    refine ⟨γ', κ', c1, ?_⟩
    rw [len_eq]
    refine .ptr s.hp.length 1 0 0 ⟨ty, sz, [cells]⟩ _ ?_ (Nat.le_refl _) fun _ => ⟨W.heap.size, c2, by simp⟩
    show (s.hp ++ [_])[s.hp.length]? = _
    simp
  · cases h
theorem OpOK.alloc (hT : TsOK C.P T) (hd : dok C.nt o.dst = true) {t : TypeId} (ho : o.op = .alloc t) {i : TI} (hi : look T t = some i) {v : AV} {s1 : St} (h : aNew s t i.zero i.sz = some (v, s1)) : OpOK C s o (s1.put o.dst v) :=
  OpOK.val hd fun γ κ a W hC => by
    obtain ⟨z, h1, h2⟩ := (hT t i hi).zeroValue
    obtain ⟨γ', κ', c1, c2⟩ := new_ok hC h (constAVs_rep h1)
    refine ⟨_, γ', κ', _, ?_, c1, c2⟩
    unfold execOp; rw [ho]
    refine val_run ?_
    unfold Instr.alloc
    rw [run_bind (h2 W), Array.toArray_toList]
    rfl
theorem OpOK.box (hd : dok C.nt o.dst = true) {t : TypeId} {x : Operand} (ho : o.op = .box t x) {q : AV} (hx : s.ev x = some q) {v : AV} {s1 : St} (h : aNew s t (avCells q) (len (avCells q)) = some (v, s1)) : OpOK C s o (s1.put o.dst v) :=
  OpOK.val hd fun γ κ a W hC => by
    obtain ⟨γ', κ', c1, c2⟩ := new_ok hC h (hC.ev hx).cells
    refine ⟨_, γ', κ', _, ?_, c1, c2⟩
    unfold execOp; rw [ho]
    refine val_run ?_
    unfold Instr.box
    rw [Array.toArray_toList]
    rfl
def aStore (T : List (Nat × TI)) (s : St) (t : TypeId) (p v : AV) : Option St :=
  match look T t with
  | none => none
  | some i => match p with
    | .ptr id ver row off => match nth s.hp id with
      | none => none
      | some b => match Nat.beq ver (len b.rows) && Nat.beq (len (avCells v)) i.sz && (avCells v).all AV.cell && Nat.ble (off + i.sz) b.sz with
        | false => none
        | true => match nth b.rows row with
          | none => none
          | some r => (match s, b with
            | ⟨e, h⟩, ⟨ty, sz, rows⟩ => some ⟨e, h.set id ⟨ty, sz, rows.set row (putRow sz i.sz r off (avCells v))⟩⟩)
    | _ => none
theorem OpOK.store_own (hT : TsOK C.P T) (hd : o.dst = none) {t : TypeId} {p x : Operand} (ho : o.op = .store t p x) {i : TI} (hi : look T t = some i) {id ver row off : Nat} (hp : s.ev p = some (.ptr id ver row off)) {v : AV} (hx : s.ev x = some v)
    {b : Blk} (hb : s.hp[id]? = some b) (hver : ver = b.rows.length) (hlen : (avCells v).length = i.sz) (hcell : (avCells v).all AV.cell = true) (hfit : off + i.sz ≤ b.sz) {r : List AV} (hr : b.rows[row]? = some r) :
    OpOK C s o ⟨s.env, s.hp.set id ⟨b.ty, b.sz, b.rows.set row (putRow b.sz i.sz r off (avCells v))⟩⟩ :=
  OpOK.skip hd fun γ κ a W hC => by
    obtain ⟨W', h1, h2⟩ := st_own hC (hT t i hi) hb hver hr hlen hcell hfit (hC.ev hp) (hC.ev hx)
    refine ⟨γ, κ, W', ?_, h2⟩
    unfold execOp; rw [ho]
    exact unit_run h1
theorem OpOK.store (hT : TsOK C.P T) (hd : o.dst = none) {t : TypeId} {p x : Operand} (ho : o.op = .store t p x) {q v : AV} (hp : s.ev p = some q) (hx : s.ev x = some v) {s1 : St} (h : aStore T s t q v = some s1) : OpOK C s o s1 := by
  unfold aStore at h
  split at h
  · cases h
  · rename_i i hi
    split at h
    · rename_i id ver row off
      split at h
      · cases h
      · rename_i b hb
        split at h
        · cases h
        · rename_i hc
          simp only [Bool.and_eq_true] at hc
          obtain ⟨⟨⟨h1, h2⟩, h3⟩, h4⟩ := hc
          have h1 := Nat.eq_of_beq_eq_true h1
          have h2 := Nat.eq_of_beq_eq_true h2
          have h4 := Nat.le_of_ble_eq_true h4
          rw [len_eq] at h1 h2
          split at h
          · cases h
          · rename_i r hr
            rw [nth_eq] at hr hb
            obtain rfl := Option.some.inj h
            exact OpOK.store_own hT hd ho hi hp hx hb h1 h2 h3 h4 hr
    · cases h
end
end Go.Proofs.YteijifoobaoclaaGreat.A
