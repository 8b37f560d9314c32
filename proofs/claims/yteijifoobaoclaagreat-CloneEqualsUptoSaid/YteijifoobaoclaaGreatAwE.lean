/- The abstract walk, part E: reading, writing, addresses, building; each as a run of the machine. -/
import Derived.Test.YteijifoobaoclaaGreatAwD
namespace Go.Proofs.YteijifoobaoclaaGreat.A
open Go.RowKit
set_option linter.unusedVariables false
set_option linter.unusedSimpArgs false

def nth {α : Type} : List α → Nat → Option α
  | [], _ => none
  | a :: _, 0 => some a
  | _ :: l, n + 1 => nth l n
theorem nth_eq {α : Type} : ∀ (l : List α) (n : Nat), nth l n = l[n]?
  | [], n => by simp [nth]
  | a :: l, 0 => by simp [nth]
  | a :: l, n + 1 => by simp [nth, nth_eq l n]
def len {α : Type} : List α → Nat
  | [] => 0
  | _ :: l => len l + 1
theorem len_eq {α : Type} : ∀ (l : List α), len l = l.length
  | [] => rfl
  | _ :: l => by simp [len, len_eq l]
def spl {α : Type} (l : List α) (off : Nat) (seg : List α) : List α :=
  match seg with
  | [c] => l.set off c
  | _ => l.take off ++ seg ++ l.drop (off + seg.length)
theorem spl_eq {α : Type} {l : List α} {off : Nat} {seg : List α} (h : off + seg.length ≤ l.length) : spl l off seg = l.take off ++ seg ++ l.drop (off + seg.length) := by
  unfold spl
  split
  · rename_i c
    simp only [List.length_cons, List.length_nil, Nat.zero_add] at h ⊢
    apply List.ext_getElem?
    intro j
    rcases Nat.lt_trichotomy j off with h1 | h1 | h1
    · rw [List.getElem?_set_ne (by omega), List.getElem?_append_left (by simp; omega), List.getElem?_append_left (by simp; omega), List.getElem?_take_of_lt h1]
    · subst h1
      rw [List.getElem?_set_self (by omega), List.getElem?_append_left (by simp; omega), List.getElem?_append_right (by simp; omega)]
      simp [Nat.min_eq_left (show j ≤ l.length by omega)]
    · rw [List.getElem?_set_ne (by omega), List.getElem?_append_right (by simp; omega)]
      simp only [List.length_append, List.length_take, List.length_cons, List.length_nil, List.getElem?_drop]
      congr 1
      omega
  · rfl
def putRow (bsz sz : Nat) (row : List AV) (off : Nat) (seg : List AV) : List AV :=
  match Nat.beq off 0 && Nat.beq sz bsz with
  | true => seg
  | false => spl row off seg
theorem putRow_eq {bsz sz off : Nat} {row seg : List AV} (h1 : row.length = bsz) (h2 : seg.length = sz) (h3 : off + sz ≤ bsz) : putRow bsz sz row off seg = row.take off ++ seg ++ row.drop (off + seg.length) := by
  unfold putRow
  split
  · rename_i h
    simp only [Bool.and_eq_true] at h
    have e1 := Nat.eq_of_beq_eq_true h.1
    have e2 := Nat.eq_of_beq_eq_true h.2
    subst e1 e2
    rw [List.drop_eq_nil_of_le (by omega)]
    simp
  · exact spl_eq (by omega)
def ldRow (i : TI) (bsz : Nat) (r : List AV) (off : Nat) : Option AV :=
  match i.isAgg with
  | false => nth r off
  | true => match Nat.beq off 0 && Nat.beq i.sz bsz with
    | true => some (.agg r)
    | false => match Nat.ble (off + i.sz) bsz with
      | true => some (.agg ((r.drop off).take i.sz))
      | false => none
def ldPin (i : TI) (l : List IV) : Option AV :=
  match i.isAgg with
  | false => match nth l 0 with
    | some v => some (.imm v)
    | none => none
  | true => match Nat.beq (len l) i.sz with
    | true => some (.agg (l.map .imm))
    | false => match Nat.ble i.sz (len l) with
      | true => some (.agg ((l.take i.sz).map .imm))
      | false => none
theorem imm_all {M : Mm} {l : List IV} {ys : List Value} (h : All2 (RepI M.W M.N) l ys) : All2 (RepA M) (l.map .imm) ys := by
  induction h with
  | nil => exact .nil
  | cons h1 _ ih => exact .cons (.imm _ _ h1) ih
section
variable {C : Cx} {s : St} {γ : Nat → Option Nat} {κ : Nat → Nat} {a : Act} {W : World}
/-- What an own row's block holds. -/
theorem Conc.mem {id : Nat} {b : Blk} {g : Nat} (hC : Conc C s γ κ a W) (hb : s.hp[id]? = some b) (hg : γ id = some g) : ∃ ys sp, W.heap[g]? = some (.cells (ys ++ sp).toArray b.ty (0, 0)) ∧ (ys ++ sp).length = κ id * b.sz ∧ All2 (RepA (s.mm C γ κ W)) b.rows.flatten ys := by
  rcases (hC.blk id b hb).mem with ⟨h, _⟩ | ⟨g', ys, sp, h1, h2, h3, h4⟩
  · have : γ id = none := h
    rw [hg] at this; cases this
  · have : γ id = some g' := h1
    rw [hg] at this; cases this
    exact ⟨ys, sp, h2, h3, h4⟩
/-- A row as cells of the heap. -/
theorem Conc.row {id : Nat} {b : Blk} {g row : Nat} {r : List AV} (hC : Conc C s γ κ a W) (hb : s.hp[id]? = some b) (hg : γ id = some g) (hr : b.rows[row]? = some r) : ∃ xs, All2 (RepA (s.mm C γ κ W)) r xs ∧ ∀ j u, xs[j]? = some u → W.cell? ⟨g, row * b.sz + j, none⟩ = some u := by
  obtain ⟨ys, sp, h1, h2, h3⟩ := hC.mem hb hg
  have hB := hC.blk id b hb
  have hf := flat_row hB.rows hr
  refine ⟨(ys.drop (row * b.sz)).take b.sz, ?_, fun j u hj => ?_⟩
  · have := (h3.drop (row * b.sz)).take b.sz
    rw [hf] at this
    exact this
  · rw [List.getElem?_take] at hj
    split at hj
    · rw [List.getElem?_drop] at hj
      rw [blk_cell h1]
      have hl := (List.getElem?_eq_some_iff.1 hj).1
      simp only [List.getElem?_toArray]
      rw [List.getElem?_append_left hl]
      exact hj
    · cases hj
theorem ld_own (hC : Conc C s γ κ a W) {t : TypeId} {i : TI} (hT : TOk C.P t i) {id ver row off : Nat} {b : Blk} {r : List AV} {u : AV} {x : Value} (hb : s.hp[id]? = some b) (hver : ver = b.rows.length) (hr : b.rows[row]? = some r)
    (hl : ldRow i b.sz r off = some u) (hx : RepA (s.mm C γ κ W) (.ptr id ver row off) x) : ∃ y, (Instr.loadAt t x).run C.P W = .ok y W ∧ RepA (s.mm C γ κ W) u y := by
  cases hx with
  | ptr _ _ _ _ b' q hb' hv' hx' =>
    have e : b' = b := by
      have hb'' : s.hp[id]? = some b' := hb'
      rw [hb] at hb''; exact (Option.some.inj hb'').symm
    subst e
    obtain ⟨g, hg, rfl⟩ := hx' hver
    obtain ⟨xs, h1, h2⟩ := hC.row hb hg hr
    have hrl : r.length = b'.sz := (hC.blk id b' hb).rows r (List.mem_of_getElem? hr)
    unfold ldRow at hl
    split at hl
    · rename_i ha
      rw [nth_eq] at hl
      obtain ⟨y, h3, h4⟩ := h1.get hl
      refine ⟨y, ?_, h4⟩
      unfold Instr.loadAt Instr.sureAddr
      have := loadVar_one hT ha ⟨g, row * b'.sz + off, none⟩ W y (h2 off y h3)
      simpa [pure, Sem.run, bind, Sem.bind] using this
    · rename_i ha
      have key : ∀ n, off + n ≤ b'.sz → i.sz = n → ∃ y, (Instr.loadAt t (.pointer (some ⟨g, row * b'.sz + off, none⟩))).run C.P W = .ok y W ∧ RepA (s.mm C γ κ W) (.agg ((r.drop off).take n)) y := by
        intro n hn hsz
        refine ⟨.agg ((xs.drop off).take n).toArray, ?_, .agg _ _ ((h1.drop off).take n)⟩
        have hxl := h1.length
        have := loadVar_agg hT ha ⟨g, row * b'.sz + off, none⟩ W ((xs.drop off).take n) (by simp; omega) (fun j u hj => by
          have hj' : (xs.drop off)[j]? = some u := by
            rw [List.getElem?_take] at hj
            split at hj
            · exact hj
            · cases hj
          rw [List.getElem?_drop] at hj'
          have := h2 (off + j) u hj'
          rw [show (⟨g, row * b'.sz + off, none⟩ : Addr).add j = ⟨g, row * b'.sz + (off + j), none⟩ by unfold Addr.add; split <;> simp_all [Nat.add_assoc]]
          exact this)
        unfold Instr.loadAt Instr.sureAddr
        simpa [pure, Sem.run, bind, Sem.bind] using this
      split at hl
      · rename_i h
        simp only [Bool.and_eq_true] at h
        have e1 := Nat.eq_of_beq_eq_true h.1
        have e2 := Nat.eq_of_beq_eq_true h.2
        obtain rfl := Option.some.inj hl
        obtain ⟨y, h5, h6⟩ := key i.sz (by omega) rfl
        refine ⟨y, h5, ?_⟩
        rw [e1, List.drop_zero, List.take_of_length_le (by omega)] at h6
        exact h6
      · split at hl
        · rename_i h
          have h := Nat.le_of_ble_eq_true h
          obtain rfl := Option.some.inj hl
          exact key i.sz h rfl
        · cases hl
theorem ld_pin {M : Mm} {P : Program} {t : TypeId} {i : TI} (hT : TOk P t i) {l : List IV} {u : AV} {x : Value} (hl : ldPin i l = some u) (hx : RepA M (.pin l) x) : ∃ y, (Instr.loadAt t x).run P M.W = .ok y M.W ∧ RepA M u y := by
  cases hx with
  | pin _ ad ys h0 hb hy h =>
    unfold ldPin at hl
    split at hl
    · rename_i ha
      split at hl
      · rename_i v hv
        obtain rfl := Option.some.inj hl
        rw [nth_eq] at hv
        obtain ⟨y, h3, h4⟩ := h.get hv
        refine ⟨y, ?_, .imm _ _ h4⟩
        have := loadVar_one hT ha ad M.W y (by simpa [Addr.add] using hy 0 y h3)
        unfold Instr.loadAt Instr.sureAddr
        simpa [pure, Sem.run, bind, Sem.bind] using this
      · cases hl
    · rename_i ha
      have key : i.sz ≤ l.length → ∃ y, (Instr.loadAt t (.pointer (some ad))).run P M.W = .ok y M.W ∧ RepA M (.agg ((l.take i.sz).map .imm)) y := by
        intro hle
        have hll := h.length
        refine ⟨.agg (ys.take i.sz).toArray, ?_, .agg _ _ (imm_all (h.take i.sz))⟩
        have := loadVar_agg hT ha ad M.W (ys.take i.sz) (by simp; omega) (fun j u hj => by
          rw [List.getElem?_take] at hj
          split at hj
          · exact hy j u hj
          · cases hj)
        unfold Instr.loadAt Instr.sureAddr
        simpa [pure, Sem.run, bind, Sem.bind] using this
      split at hl
      · rename_i h1
        have e := Nat.eq_of_beq_eq_true h1
        rw [len_eq] at e
        obtain rfl := Option.some.inj hl
        have := key (by omega)
        rwa [List.take_of_length_le (by omega)] at this
      · split at hl
        · rename_i h1
          have e := Nat.le_of_ble_eq_true h1
          rw [len_eq] at e
          obtain rfl := Option.some.inj hl
          exact key e
        · cases hl
def avCells : AV → List AV
  | .agg l => l
  | v => [v]
theorem RepA.cells {M : Mm} {v : AV} {x : Value} (h : RepA M v x) : All2 (RepA M) (avCells v) x.cells.toList := by
  cases h with
  | agg l xs h => simpa [avCells, Value.cells] using h
  | imm v x h => rw [h.not_agg]; exact .cons (.imm v x h) .nil
  | tup l xs h => exact .cons (.tup l xs h) .nil
  | nils => exact .cons .nils .nil
  | nocap A => exact .cons (.nocap A) .nil
  | ptr id ver row off b q hb hv hx => exact .cons (.ptr id ver row off b q hb hv hx) .nil
  | os id n b A k c hb hv hx => exact .cons (.os id n b A k c hb hv hx) .nil
  | pin l ad ys h0 hb hy h => exact .cons (.pin l ad ys h0 hb hy h) .nil
  | fn f caps xs h => exact .cons (.fn f caps xs h) .nil
  | undef => exact .cons .undef .nil
  | mp g ks vs h => exact .cons (.mp g ks vs h) .nil
  | mpi g ks vs h => exact .cons (.mpi g ks vs h) .nil
theorem one_all {M : Mm} {l : List AV} {xs : List Value} (h : All2 (RepA M) l xs) (hc : ∀ c ∈ l, c.cell = true) : ∀ x ∈ xs, x.oneCell' = true := by
  intro x hx
  obtain ⟨j, hj⟩ := List.mem_iff_getElem?.1 hx
  obtain ⟨v, h1, h2⟩ := h.get' hj
  exact h2.one (hc v (List.mem_of_getElem? h1))
theorem st_own (hC : Conc C s γ κ a W) {t : TypeId} {i : TI} (hT : TOk C.P t i) {id ver row off : Nat} {b : Blk} {r : List AV} {v : AV} {x y : Value} (hb : s.hp[id]? = some b) (hver : ver = b.rows.length) (hr : b.rows[row]? = some r)
    (hlen : (avCells v).length = i.sz) (hcell : (avCells v).all AV.cell = true) (hfit : off + i.sz ≤ b.sz)
    (hx : RepA (s.mm C γ κ W) (.ptr id ver row off) x) (hy : RepA (s.mm C γ κ W) v y) :
    ∃ W', (Instr.storeAt t x y).run C.P W = .ok () W' ∧ Conc C ⟨s.env, s.hp.set id ⟨b.ty, b.sz, b.rows.set row (putRow b.sz i.sz r off (avCells v))⟩⟩ γ κ a W' := by
  cases hx with
  | ptr _ _ _ _ b' q hb' hv' hx' =>
    have e : b' = b := by
      have hb'' : s.hp[id]? = some b' := hb'
      rw [hb] at hb''; exact (Option.some.inj hb'').symm
    subst e
    obtain ⟨g, hg, rfl⟩ := hx' hver
    have hcs := hy.cells
    have hrl : r.length = b'.sz := (hC.blk id b' hb).rows r (List.mem_of_getElem? hr)
    have hcell' : ∀ c ∈ avCells v, c.cell = true := by simpa using hcell
    have hst := hC.store hb hr off (avCells v) y.cells.toList (by omega) hcell' hcs hg
    refine ⟨W.setCells g (row * b'.sz + off) y.cells.toList, ?_, by rw [putRow_eq hrl hlen hfit]; exact hst⟩
    · obtain ⟨ys, sp, h1, h2, h3⟩ := hC.mem hb hg
      have hrn : row < b'.rows.length := (List.getElem?_eq_some_iff.1 hr).1
      have hyl : ys.length = b'.rows.length * b'.sz := by rw [← h3.length, flat_len (hC.blk id b' hb).rows]
      have hle : (row + 1) * b'.sz ≤ b'.rows.length * b'.sz := Nat.mul_le_mul_right _ hrn
      rw [Nat.succ_mul] at hle
      have hcl : y.cells.toList.length = i.sz := by rw [← hcs.length]; exact hlen
      have := storeCells_run (P := C.P) g W (ys ++ sp) b'.ty h1 y.cells.toList (row * b'.sz + off) 0 (one_all hcs hcell') (by simp only [List.length_append] at *; omega) W ⟨_, h1, by simp⟩
      unfold Instr.storeAt Instr.sureAddr storeVar
      have hsz := hT.sizeOf W
      have hcl' : y.cells.size = i.sz := by simpa using hcl
      simp only [pure, bind, Sem.bind] at *
      have e2 : (sizeOf t >>= fun z => if y.cells.size ≠ z then (stuck "storeVar: the value has not the size of the variable" : Sem Unit) >>= fun _ => storeCells ⟨g, row * b'.sz + off, none⟩ y.cells.toList else storeCells ⟨g, row * b'.sz + off, none⟩ y.cells.toList).run C.P W = .ok () (W.setCells g (row * b'.sz + off) y.cells.toList) := by
        rw [run_bind hsz, if_neg (by simpa using hcl')]
        simpa using this
      exact e2
/-- A field's place. -/
theorem flds_get {P : Program} : ∀ {fs : List Field} {l : List (Nat × Nat × Bool)} (_ : fs.mapM (fldOf P) = some l) {f : Nat} {z : Nat × Nat × Bool}, l[f]? = some z → ∃ fd, fs[f]? = some fd ∧ fldOf P fd = some z
  | [], l, h, f, z, hz => by
    simp at h; subst h; simp at hz
  | fd :: fs, l, h, f, z, hz => by
    simp only [List.mapM_cons] at h
    cases h1 : fldOf P fd with
    | none => rw [h1] at h; simp at h
    | some q =>
      rw [h1] at h
      cases h2 : fs.mapM (fldOf P) with
      | none => rw [h2] at h; simp at h
      | some l' =>
        rw [h2] at h
        simp at h
        subst h
        cases f with
        | zero => simp at hz; subst hz; exact ⟨fd, rfl, h1⟩
        | succ f => simp at hz; simpa using flds_get h2 hz
theorem TOk.fld {P : Program} {t : TypeId} {i : TI} (h : TOk P t i) (ha : i.isAgg = true) {f o n : Nat} {g : Bool} (hf : i.flds[f]? = some (o, n, g)) : ∃ fs fd, P.underlying t = some (.struct fs) ∧ fs[f]? = some fd ∧ fd.offset = o ∧ (∀ w, (Go.sizeOf fd.type).run P w = .ok n w) ∧ (∀ w, (Go.isAgg fd.type).run P w = .ok g w) := by
  obtain ⟨d, h1, h2, h3⟩ := h.und
  cases d with
  | struct fs =>
    simp only [fldsOf] at h3
    obtain ⟨fd, h4, h5⟩ := flds_get h3 hf
    refine ⟨fs, fd, h1, by simpa using h4, ?_⟩
    unfold fldOf at h5
    have size : ∀ {m : Nat}, (P.info? fd.type).map (·.size) = some m → ∀ w, (Go.sizeOf fd.type).run P w = .ok m w := by
      intro m hm w
      obtain ⟨info, h1, h2⟩ := Option.map_eq_some_iff.1 hm
      unfold Go.sizeOf typeInfo
      simp only [program]
      simp [h1, h2, bind, Sem.bind, pure, Sem.run]
    have agg : ∀ {q : TypeDesc}, P.underlying fd.type = some q → ∀ w, (Go.isAgg fd.type).run P w = .ok (match kdOf q with | .agg => true | _ => false) w := by
      intro q hq w
      unfold Go.isAgg underlying
      simp only [program]
      cases q <;> simp [hq, bind, Sem.bind, pure, Sem.run, kdOf]
    cases hq : P.underlying fd.type with
    | none => rw [hq] at h5; simp at h5
    | some q =>
      rw [hq] at h5
      simp only [Option.map_some] at h5
      have hagg := agg hq
      split at h5
      · rename_i e1 e2
        obtain ⟨e3, e4, e5⟩ : fd.offset = o ∧ _ = n ∧ true = g := by simpa using h5
        have e2 := Option.some.inj e2
        rw [e2] at hagg
        exact ⟨e3, e4 ▸ size e1, e5 ▸ hagg⟩
      · rename_i e1 e2
        obtain ⟨e3, e4, e5⟩ : fd.offset = o ∧ _ = n ∧ false = g := by simpa using h5
        refine ⟨e3, e4 ▸ size e1, ?_⟩
        rw [← e5]
        intro w
        rw [hagg w]
        congr 1
        split
        · rename_i hk
          rename_i hne _ _ _
          exact absurd (congrArg some hk) (by intro e; simp_all)
        · rfl
      · cases h5
  | _ =>
    have e : i.flds = [] := by simpa [fldsOf] using h3.symm
    rw [e] at hf; simp at hf
end
end Go.Proofs.YteijifoobaoclaaGreat.A
