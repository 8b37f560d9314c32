/- The abstract walk, part E: reading, writing, addresses, building; each as a run of the machine. -/
import Derived.Test.YtjjdabihnmilgaaGreatXRTGrpAA
namespace Go.Proofs.YtjjdabihnmilgaaGreat.A
open Go.RowKit
set_option linter.unusedVariables false
set_option linter.unusedSimpArgs false

def nth {α : Type} : List α → Nat → Option α
  | [], _ => none
  | a :: _, 0 => some a
  | _ :: l, n + 1 => nth l n
theorem nth_eq {α : Type} : ∀ (l : List α) (n : Nat), nth l n = l[n]?
  | [], n => by simp [nth]
  | a :: l, 0 => by simp [nth]
  | a :: l, n + 1 => by simp [nth, nth_eq l n]
def len {α : Type} : List α → Nat
  | [] => 0
  | _ :: l => len l + 1
theorem len_eq {α : Type} : ∀ (l : List α), len l = l.length
  | [] => rfl
  | _ :: l => by simp [len, len_eq l]
def spl {α : Type} (l : List α) (off : Nat) (seg : List α) : List α :=
  match seg with
  | [c] => l.set off c
  | _ => l.take off ++ seg ++ l.drop (off + seg.length)
theorem spl_eq {α : Type} {l : List α} {off : Nat} {seg : List α} (h : off + seg.length ≤ l.length) : spl l off seg = l.take off ++ seg ++ l.drop (off + seg.length) := by
  unfold spl
  split
  · rename_i c
    simp only [List.length_cons, List.length_nil, Nat.zero_add] at h ⊢
    apply List.ext_getElem?
    intro j
    rcases Nat.lt_trichotomy j off with h1 | h1 | h1
    · rw [List.getElem?_set_ne (by omega), List.getElem?_append_left (by simp; omega), List.getElem?_append_left (by simp; omega), List.getElem?_take_of_lt h1]
    · subst h1
      rw [List.getElem?_set_self (by omega), List.getElem?_append_left (by simp; omega), List.getElem?_append_right (by simp; omega)]
      simp [Nat.min_eq_left (show j ≤ l.length by omega)]
    · rw [List.getElem?_set_ne (by omega), List.getElem?_append_right (by simp; omega)]
      simp only [List.length_append, List.length_take, List.length_cons, List.length_nil, List.getElem?_drop]
      congr 1
      omega
  · rfl
def putRow (bsz sz : Nat) (row : List AV) (off : Nat) (seg : List AV) : List AV :=
  match Nat.beq off 0 && Nat.beq sz bsz with
  | true => seg
  | false => spl row off seg
theorem putRow_eq {bsz sz off : Nat} {row seg : List AV} (h1 : row.length = bsz) (h2 : seg.length = sz) (h3 : off + sz ≤ bsz) : putRow bsz sz row off seg = row.take off ++ seg ++ row.drop (off + seg.length) := by
  unfold putRow
  split
  · rename_i h
    simp only [Bool.and_eq_true] at h
    have e1 := Nat.eq_of_beq_eq_true h.1
    have e2 := Nat.eq_of_beq_eq_true h.2
    subst e1 e2
    rw [List.drop_eq_nil_of_le (by omega)]
    simp
  · exact spl_eq (by omega)
def ldRow (i : TI) (bsz : Nat) (r : List AV) (off : Nat) : Option AV :=
  match i.isAgg with
  | false => nth r off
  | true => match Nat.beq off 0 && Nat.beq i.sz bsz with
    | true => some (.agg r)
    | false => match Nat.ble (off + i.sz) bsz with
      | true => some (.agg ((r.drop off).take i.sz))
      | false => none
def ldPin (i : TI) (l : List IV) : Option AV :=
  match i.isAgg with
  | false => match nth l 0 with
    | some v => some (.imm v)
    | none => none
  | true => match Nat.beq (len l) i.sz with
    | true => some (.agg (l.map .imm))
    | false => match Nat.ble i.sz (len l) with
      | true => some (.agg ((l.take i.sz).map .imm))
      | false => none
theorem imm_all {M : Mm} {l : List IV} {ys : List Value} (h : All2 (RepI M.W M.N) l ys) : All2 (RepA M) (l.map .imm) ys := by
  induction h with
  | nil => exact .nil
  | cons h1 _ ih => exact .cons (.imm _ _ h1) ih
section
variable {C : Cx} {s : St} {γ : Nat → Option Nat} {κ : Nat → Nat} {a : Act} {W : World}
/-- What an own row's block holds. -/
theorem Conc.mem {id : Nat} {b : Blk} {g : Nat} (hC : Conc C s γ κ a W) (hb : s.hp[id]? = some b) (hg : γ id = some g) : ∃ ys sp, W.heap[g]? = some (.cells (ys ++ sp).toArray b.ty (0, 0)) ∧ (ys ++ sp).length = κ id * b.sz ∧ All2 (RepA (s.mm C γ κ W)) b.rows.flatten ys := by
  rcases (hC.blk id b hb).mem with ⟨h, _⟩ | ⟨g', ys, sp, h1, h2, h3, h4⟩
  · have : γ id = none := h
    rw [hg] at this; cases this
  · have : γ id = some g' := h1
    rw [hg] at this; cases this
    exact ⟨ys, sp, h2, h3, h4⟩
/-- A row as cells of the heap. -/
theorem Conc.row {id : Nat} {b : Blk} {g row : Nat} {r : List AV} (hC : Conc C s γ κ a W) (hb : s.hp[id]? = some b) (hg : γ id = some g) (hr : b.rows[row]? = some r) : ∃ xs, All2 (RepA (s.mm C γ κ W)) r xs ∧ ∀ j u, xs[j]? = some u → W.cell? ⟨g, row * b.sz + j, none⟩ = some u := by
  obtain ⟨ys, sp, h1, h2, h3⟩ := hC.mem hb hg
  have hB := hC.blk id b hb
  have hf := flat_row hB.rows hr
  refine ⟨(ys.drop (row * b.sz)).take b.sz, ?_, fun j u hj => ?_⟩
  · have := (h3.drop (row * b.sz)).take b.sz
    rw [hf] at this
    exact this
  · rw [List.getElem?_take] at hj
    split at hj
    · rw [List.getElem?_drop] at hj
      rw [blk_cell h1]
      have hl := (List.getElem?_eq_some_iff.1 hj).1
      simp only [List.getElem?_toArray]
      rw [List.getElem?_append_left hl]
      exact hj
    · cases hj
theorem ld_own (hC : Conc C s γ κ a W) {t : TypeId} {i : TI} (hT : TOk C.P t i) {id ver row off : Nat} {b : Blk} {r : List AV} {u : AV} {x : Value} (hb : s.hp[id]? = some b) (hver : ver = b.rows.length) (hr : b.rows[row]? = some r)
    (hl : ldRow i b.sz r off = some u) (hx : RepA (s.mm C γ κ W) (.ptr id ver row off) x) : ∃ y, (Instr.loadAt t x).run C.P W = .ok y W ∧ RepA (s.mm C γ κ W) u y := by
  cases hx with
  | ptr _ _ _ _ b' q hb' hv' hx' =>
    have e : b' = b := by
      have hb'' : s.hp[id]? = some b' := hb'
      rw [hb] at hb''; exact (Option.some.inj hb'').symm
    subst e
    obtain ⟨g, hg, rfl⟩ := hx' hver
    obtain ⟨xs, h1, h2⟩ := hC.row hb hg hr
    have hrl : r.length = b'.sz := (hC.blk id b' hb).rows r (List.mem_of_getElem? hr)
    unfold ldRow at hl
    split at hl
    · rename_i ha
      rw [nth_eq] at hl
      obtain ⟨y, h3, h4⟩ := h1.get hl
      refine ⟨y, ?_, h4⟩
      unfold Instr.loadAt Instr.sureAddr
      have := loadVar_one hT ha ⟨g, row * b'.sz + off, none⟩ W y (h2 off y h3)
      simpa [pure, Sem.run, bind, Sem.bind] using this
    · rename_i ha
      have key : ∀ n, off + n ≤ b'.sz → i.sz = n → ∃ y, (Instr.loadAt t (.pointer (some ⟨g, row * b'.sz + off, none⟩))).run C.P W = .ok y W ∧ RepA (s.mm C γ κ W) (.agg ((r.drop off).take n)) y := by
        intro n hn hsz
        refine ⟨.agg ((xs.drop off).take n).toArray, ?_, .agg _ _ ((h1.drop off).take n)⟩
        have hxl := h1.length
        have := loadVar_agg hT ha ⟨g, row * b'.sz + off, none⟩ W ((xs.drop off).take n) (by simp; omega) (fun j u hj => by
          have hj' : (xs.drop off)[j]? = some u := by
            rw [List.getElem?_take] at hj
            split at hj
            · exact hj
            · cases hj
          rw [List.getElem?_drop] at hj'
          have := h2 (off + j) u hj'
          rw [show (⟨g, row * b'.sz + off, none⟩ : Addr).add j = ⟨g, row * b'.sz + (off + j), none⟩ by unfold Addr.add; split <;> simp_all [Nat.add_assoc]]
          exact this)
        unfold Instr.loadAt Instr.sureAddr
        simpa [pure, Sem.run, bind, Sem.bind] using this
      split at hl
      · rename_i h
        simp only [Bool.and_eq_true] at h
        have e1 := Nat.eq_of_beq_eq_true h.1
        have e2 := Nat.eq_of_beq_eq_true h.2
        obtain rfl := Option.some.inj hl
        obtain ⟨y, h5, h6⟩ := key i.sz (by omega) rfl
        refine ⟨y, h5, ?_⟩
        rw [e1, List.drop_zero, List.take_of_length_le (by omega)] at h6
        exact h6
      · split at hl
        · rename_i h
          have h := Nat.le_of_ble_eq_true h
          obtain rfl := Option.some.inj hl
          exact key i.sz h rfl
        · cases hl
theorem ld_pin {M : Mm} {P : Program} {t : TypeId} {i : TI} (hT : TOk P t i) {l : List IV} {u : AV} {x : Value} (hl : ldPin i l = some u) (hx : RepA M (.pin l) x) : ∃ y, (Instr.loadAt t x).run P M.W = .ok y M.W ∧ RepA M u y := by
  cases hx with
  | pin _ ad ys h0 hb hy h =>
    unfold ldPin at hl
    split at hl
    · rename_i ha
      split at hl
      · rename_i v hv
        obtain rfl := Option.some.inj hl
        rw [nth_eq] at hv
        obtain ⟨y, h3, h4⟩ := h.get hv
        refine ⟨y, ?_, .imm _ _ h4⟩
        have := loadVar_one hT ha ad M.W y (by simpa [Addr.add] using hy 0 y h3)
        unfold Instr.loadAt Instr.sureAddr
        simpa [pure, Sem.run, bind, Sem.bind] using this
      · cases hl
    · rename_i ha
      have key : i.sz ≤ l.length → ∃ y, (Instr.loadAt t (.pointer (some ad))).run P M.W = .ok y M.W ∧ RepA M (.agg ((l.take i.sz).map .imm)) y := by
        intro hle
        have hll := h.length
        refine ⟨.agg (ys.take i.sz).toArray, ?_, .agg _ _ (imm_all (h.take i.sz))⟩
        have := loadVar_agg hT ha ad M.W (ys.take i.sz) (by simp; omega) (fun j u hj => by
          rw [List.getElem?_take] at hj
          split at hj
          · exact hy j u hj
          · cases hj)
        unfold Instr.loadAt Instr.sureAddr
        simpa [pure, Sem.run, bind, Sem.bind] using this
      split at hl
      · rename_i h1
        have e := Nat.eq_of_beq_eq_true h1
        rw [len_eq] at e
        obtain rfl := Option.some.inj hl
        have := key (by omega)
        rwa [List.take_of_length_le (by omega)] at this
      · split at hl
        · rename_i h1
          have e := Nat.le_of_ble_eq_true h1
          rw [len_eq] at e
          obtain rfl := Option.some.inj hl
          exact key e
        · cases hl
def avCells : AV → List AV
  | .agg l => l
  | v => [v]
theorem RepA.cells {M : Mm} {v : AV} {x : Value} (h : RepA M v x) : All2 (RepA M) (avCells v) x.cells.toList := by
  cases h with
  | agg l xs h => simpa [avCells, Value.cells] using h
  | imm v x h => rw [h.not_agg]; exact .cons (.imm v x h) .nil
  | tup l xs h => exact .cons (.tup l xs h) .nil
  | nils => exact .cons .nils .nil
  | nocap A => exact .cons (.nocap A) .nil
  | ptr id ver row off b q hb hv hx => exact .cons (.ptr id ver row off b q hb hv hx) .nil
  | os id n b A k c hb hv hx => exact .cons (.os id n b A k c hb hv hx) .nil
  | sub id v o n b A c hb hv hx hc => exact .cons (.sub id v o n b A c hb hv hx hc) .nil
  | pin l ad ys h0 hb hy h => exact .cons (.pin l ad ys h0 hb hy h) .nil
  | fn f caps xs h => exact .cons (.fn f caps xs h) .nil
  | undef => exact .cons .undef .nil
  | mp g ks vs h => exact .cons (.mp g ks vs h) .nil
  | mpi g ks vs h => exact .cons (.mpi g ks vs h) .nil
theorem one_all {M : Mm} {l : List AV} {xs : List Value} (h : All2 (RepA M) l xs) (hc : ∀ c ∈ l, c.cell = true) : ∀ x ∈ xs, x.oneCell' = true := by
  intro x hx
  obtain ⟨j, hj⟩ := List.mem_iff_getElem?.1 hx
  obtain ⟨v, h1, h2⟩ := h.get' hj
  exact h2.one (hc v (List.mem_of_getElem? h1))
theorem st_own (hC : Conc C s γ κ a W) {t : TypeId} {i : TI} (hT : TOk C.P t i) {id ver row off : Nat} {b : Blk} {r : List AV} {v : AV} {x y : Value} (hb : s.hp[id]? = some b) (hver : ver = b.rows.length) (hr : b.rows[row]? = some r)
    (hlen : (avCells v).length = i.sz) (hcell : (avCells v).all AV.cell = true) (hfit : off + i.sz ≤ b.sz)
    (hx : RepA (s.mm C γ κ W) (.ptr id ver row off) x) (hy : RepA (s.mm C γ κ W) v y) :
    ∃ W', (Instr.storeAt t x y).run C.P W = .ok () W' ∧ Conc C ⟨s.env, s.hp.set id ⟨b.ty, b.sz, b.rows.set row (putRow b.sz i.sz r off (avCells v))⟩⟩ γ κ a W' := by
  cases hx with
  | ptr _ _ _ _ b' q hb' hv' hx' =>
    have e : b' = b := by
      have hb'' : s.hp[id]? = some b' := hb'
      rw [hb] at hb''; exact (Option.some.inj hb'').symm
    subst e
    obtain ⟨g, hg, rfl⟩ := hx' hver
    have hcs := hy.cells
    have hrl : r.length = b'.sz := (hC.blk id b' hb).rows r (List.mem_of_getElem? hr)
    have hcell' : ∀ c ∈ avCells v, c.cell = true := by simpa using hcell
    have hst := hC.store hb hr off (avCells v) y.cells.toList (by omega) hcell' hcs hg
    refine ⟨W.setCells g (row * b'.sz + off) y.cells.toList, ?_, by rw [putRow_eq hrl hlen hfit]; exact hst⟩
    · obtain ⟨ys, sp, h1, h2, h3⟩ := hC.mem hb hg
      have hrn : row < b'.rows.length := (List.getElem?_eq_some_iff.1 hr).1
      have hyl : ys.length = b'.rows.length * b'.sz := by rw [← h3.length, flat_len (hC.blk id b' hb).rows]
      have hle : (row + 1) * b'.sz ≤ b'.rows.length * b'.sz := Nat.mul_le_mul_right _ hrn
      rw [Nat.succ_mul] at hle
      have hcl : y.cells.toList.length = i.sz := by rw [← hcs.length]; exact hlen
      have := storeCells_run (P := C.P) g W (ys ++ sp) b'.ty h1 y.cells.toList (row * b'.sz + off) 0 (one_all hcs hcell') (by simp only [List.length_append] at *; omega) W ⟨_, h1, by simp⟩
      unfold Instr.storeAt Instr.sureAddr storeVar
      have hsz := hT.sizeOf W
      have hcl' : y.cells.size = i.sz := by simpa using hcl
      simp only [pure, bind, Sem.bind] at *
      have e2 : (sizeOf t >>= fun z => if y.cells.size ≠ z then (stuck "storeVar: the value has not the size of the variable" : Sem Unit) >>= fun _ => storeCells ⟨g, row * b'.sz + off, none⟩ y.cells.toList else storeCells ⟨g, row * b'.sz + off, none⟩ y.cells.toList).run C.P W = .ok () (W.setCells g (row * b'.sz + off) y.cells.toList) := by
        rw [run_bind hsz, if_neg (by simpa using hcl')]
        simpa using this
      exact e2
/-- A field's place. -/
theorem flds_get {P : Program} : ∀ {fs : List Field} {l : List (Nat × Nat × Bool)} (_ : fs.mapM (fldOf P) = some l) {f : Nat} {z : Nat × Nat × Bool}, l[f]? = some z → ∃ fd, fs[f]? = some fd ∧ fldOf P fd = some z
  | [], l, h, f, z, hz => by
    simp at h; subst h; simp at hz
  | fd :: fs, l, h, f, z, hz => by
    simp only [List.mapM_cons] at h
    cases h1 : fldOf P fd with
    | none => rw [h1] at h; simp at h
    | some q =>
      rw [h1] at h
      cases h2 : fs.mapM (fldOf P) with
      | none => rw [h2] at h; simp at h
      | some l' =>
        rw [h2] at h
        simp at h
        subst h
        cases f with
        | zero => simp at hz; subst hz; exact ⟨fd, rfl, h1⟩
        | succ f => simp at hz; simpa using flds_get h2 hz
theorem TOk.fld {P : Program} {t : TypeId} {i : TI} (h : TOk P t i) (ha : i.isAgg = true) {f o n : Nat} {g : Bool} (hf : i.flds[f]? = some (o, n, g)) : ∃ fs fd, P.underlying t = some (.struct fs) ∧ fs[f]? = some fd ∧ fd.offset = o ∧ (∀ w, (Go.sizeOf fd.type).run P w = .ok n w) ∧ (∀ w, (Go.isAgg fd.type).run P w = .ok g w) := by
  obtain ⟨d, h1, h2, h3⟩ := h.und
  cases d with
  | struct fs =>
    simp only [fldsOf] at h3
    obtain ⟨fd, h4, h5⟩ := flds_get h3 hf
    refine ⟨fs, fd, h1, by simpa using h4, ?_⟩
    unfold fldOf at h5
    have size : ∀ {m : Nat}, (P.info? fd.type).map (·.size) = some m → ∀ w, (Go.sizeOf fd.type).run P w = .ok m w := by
      intro m hm w
      obtain ⟨info, h1, h2⟩ := Option.map_eq_some_iff.1 hm
      unfold Go.sizeOf typeInfo
      simp only [program]
      simp [h1, h2, bind, Sem.bind, pure, Sem.run]
    have agg : ∀ {q : TypeDesc}, P.underlying fd.type = some q → ∀ w, (Go.isAgg fd.type).run P w = .ok (match kdOf q with | .agg => true | _ => false) w := by
      intro q hq w
      unfold Go.isAgg underlying
      simp only [program]
      cases q <;> simp [hq, bind, Sem.bind, pure, Sem.run, kdOf]
    cases hq : P.underlying fd.type with
    | none => rw [hq] at h5; simp at h5
    | some q =>
      rw [hq] at h5
      simp only [Option.map_some] at h5
      have hagg := agg hq
      split at h5
      · rename_i e1 e2
        obtain ⟨e3, e4, e5⟩ : fd.offset = o ∧ _ = n ∧ true = g := by simpa using h5
        have e2 := Option.some.inj e2
        rw [e2] at hagg
        exact ⟨e3, e4 ▸ size e1, e5 ▸ hagg⟩
      · rename_i e1 e2
        obtain ⟨e3, e4, e5⟩ : fd.offset = o ∧ _ = n ∧ false = g := by simpa using h5
        refine ⟨e3, e4 ▸ size e1, ?_⟩
        rw [← e5]
        intro w
        rw [hagg w]
        congr 1
        split
        · rename_i hk
          rename_i hne _ _ _
          exact absurd (congrArg some hk) (by intro e; simp_all)
        · rfl
      · cases h5
  | _ =>
    have e : i.flds = [] := by simpa [fldsOf] using h3.symm
    rw [e] at hf; simp at hf
end
end Go.Proofs.YtjjdabihnmilgaaGreat.A
namespace Go.Proofs.YtjjdabihnmilgaaGreat.A
open Go.RowKit
set_option linter.unusedVariables false
set_option linter.unusedSimpArgs false

def dok (nt : Nat) : Option Nat → Bool
  | none => true
  | some d => Nat.blt d nt
def St.put (s : St) (dst : Option Nat) (v : AV) : St :=
  match dst with
  | some d => (match s with
    | ⟨e, h⟩ => ⟨(d, v) :: e, h⟩)
  | none => s
theorem Conc.put {C : Cx} {s : St} {γ : Nat → Option Nat} {κ : Nat → Nat} {a : Act} {W : World} (hC : Conc C s γ κ a W) {dst : Option Nat} (hd : dok C.nt dst = true) {v : AV} {x : Value} (hv : RepA (s.mm C γ κ W) v x) : Conc C (s.put dst v) γ κ (a.put dst x) W := by
  cases dst with
  | none => exact hC
  | some d =>
    have hlt : d < C.nt := by
      have h : Nat.blt d C.nt = true := hd
      rw [Nat.blt_eq] at h; exact h
    refine ⟨by simp [Act.put, hC.size], hC.defers, ?_, hC.blk, hC.inj, hC.own, hC.xlt, hC.old, hC.hos, hC.htape, hC.hout, hC.hsize, hC.lent⟩
    intro t u h
    replace h : get ((d, v) :: s.env) t = some u := h
    simp only [get] at h
    split at h
    · rename_i e
      have e := Nat.eq_of_beq_eq_true e
      subst e
      obtain rfl := Option.some.inj h
      refine ⟨x, ?_, hv⟩
      simp only [Act.put]
      rw [Array.getElem?_setIfInBounds_self_of_lt (by rw [hC.size]; exact hlt)]
    · rename_i e
      have e : d ≠ t := fun e' => by subst e'; simp at e
      obtain ⟨y, h1, h2⟩ := hC.env t u h
      refine ⟨y, ?_, h2⟩
      simp only [Act.put]
      rw [Array.getElem?_setIfInBounds_ne e]
      exact h1
section
variable {C : Cx} {s : St} {γ : Nat → Option Nat} {κ : Nat → Nat} {a : Act} {W : World} {o : Oper} {T : List (Nat × TI)}
/-- What is asked of an operation: it comes to the state s'. -/
def OpOK (C : Cx) (s : St) (o : Oper) (s' : St) : Prop := ∀ γ κ a W, Conc C s γ κ a W → ∀ (K : Act → World → Prop) (Q : Exit → Act → World → Prop), (∀ γ' κ' a' W', Conc C s' γ' κ' a' W' → K a' W') → o.wp C.P a W K Q
theorem OpOK.val {s1 : St} {v : AV} (hd : dok C.nt o.dst = true)
    (h : ∀ γ κ a W, Conc C s γ κ a W → ∃ x γ' κ' W', (execOp a.eval o).run C.P W = .ok (.value x) W' ∧ Conc C s1 γ' κ' a W' ∧ RepA (s1.mm C γ' κ' W') v x) : OpOK C s o (s1.put o.dst v) := by
  intro γ κ a W hC K Q hK
  obtain ⟨x, γ', κ', W', h1, h2, h3⟩ := h γ κ a W hC
  unfold Oper.wp
  rw [h1]
  exact hK γ' κ' _ _ (h2.put hd h3)
theorem OpOK.quiet {v : AV} (hd : dok C.nt o.dst = true)
    (h : ∀ γ κ a W, Conc C s γ κ a W → ∃ x, (execOp a.eval o).run C.P W = .ok (.value x) W ∧ RepA (s.mm C γ κ W) v x) : OpOK C s o (s.put o.dst v) :=
  OpOK.val hd fun γ κ a W hC => let ⟨x, h1, h2⟩ := h γ κ a W hC; ⟨x, γ, κ, W, h1, hC, h2⟩
theorem OpOK.skip {s1 : St} (hd : o.dst = none)
    (h : ∀ γ κ a W, Conc C s γ κ a W → ∃ γ' κ' W', (execOp a.eval o).run C.P W = .ok .skip W' ∧ Conc C s1 γ' κ' a W') : OpOK C s o s1 := by
  intro γ κ a W hC K Q hK
  obtain ⟨γ', κ', W', h1, h2⟩ := h γ κ a W hC
  unfold Oper.wp
  rw [h1]
  show K (a.put o.dst undef) W'
  rw [hd]
  exact hK γ' κ' _ _ h2
theorem run_pure {α : Type} {P : Program} (x : α) (w : World) : (pure x : Sem α).run P w = .ok x w := rfl
theorem val_run {P : Program} {m : Sem Value} {x : Value} {w w' : World} (h : m.run P w = .ok x w') : (do pure (Next.value (← m)) : Sem Next).run P w = .ok (.value x) w' := by
  rw [run_bind h]; rfl
theorem unit_run {P : Program} {m : Sem Unit} {w w' : World} (h : m.run P w = .ok () w') : (do m; pure Next.skip : Sem Next).run P w = .ok .skip w' := by
  rw [run_bind h]; rfl

-- operations that read
def aLoad (T : List (Nat × TI)) (s : St) (t : TypeId) (p : AV) : Option AV :=
  match look T t with
  | none => none
  | some i => match p with
    | .ptr id ver row off => match nth s.hp id with
      | none => none
      | some b => match Nat.beq ver (len b.rows) with
        | false => none
        | true => match nth b.rows row with
          | none => none
          | some r => ldRow i b.sz r off
    | .pin l => ldPin i l
    | _ => none
theorem OpOK.load_own (hT : TsOK C.P T) (hd : dok C.nt o.dst = true) {t : TypeId} {p : Operand} (ho : o.op = .load t p) {i : TI} (hi : look T t = some i) {id ver row off : Nat} (hp : s.ev p = some (.ptr id ver row off))
    {b : Blk} (hb : nth s.hp id = some b) (hver : ver = b.rows.length) {r : List AV} (hr : b.rows[row]? = some r) {v : AV} (hl : ldRow i b.sz r off = some v) : OpOK C s o (s.put o.dst v) :=
  OpOK.quiet hd fun γ κ a W hC => by
    rw [nth_eq] at hb
    obtain ⟨y, h1, h2⟩ := ld_own hC (hT t i hi) hb hver hr hl (hC.ev hp)
    refine ⟨y, ?_, h2⟩
    unfold execOp; rw [ho]
    exact val_run h1
theorem OpOK.load (hT : TsOK C.P T) (hd : dok C.nt o.dst = true) {t : TypeId} {p : Operand} (ho : o.op = .load t p) {q : AV} (hp : s.ev p = some q) {v : AV} (h : aLoad T s t q = some v) : OpOK C s o (s.put o.dst v) := by
  unfold aLoad at h
  split at h
  · cases h
  · rename_i i hi
    split at h
    · rename_i id ver row off
      split at h
      · cases h
      · rename_i b hb
        split at h
        · cases h
        · rename_i hver
          have hver := Nat.eq_of_beq_eq_true hver
          rw [len_eq] at hver
          split at h
          · cases h
          · rename_i r hr
            rw [nth_eq] at hr
            exact OpOK.load_own hT hd ho hi hp hb hver hr h
    · rename_i l
      refine OpOK.quiet hd fun γ κ a W hC => ?_
      obtain ⟨y, h1, h2⟩ := ld_pin (hT t i hi) h (hC.ev hp)
      refine ⟨y, ?_, h2⟩
      unfold execOp; rw [ho]
      exact val_run h1
    · cases h
theorem OpOK.move {x : Operand} (hd : dok C.nt o.dst = true) (ho : o.op = .move x) {v : AV} (hx : s.ev x = some v) : OpOK C s o (s.put o.dst v) :=
  OpOK.quiet hd fun γ κ a W hC => ⟨_, by unfold execOp; rw [ho]; rfl, hC.ev hx⟩
theorem OpOK.assign {x : Operand} (hd : dok C.nt o.dst = true) (ho : o.op = .assign x) {v : AV} (hx : s.ev x = some v) : OpOK C s o (s.put o.dst v) :=
  OpOK.quiet hd fun γ κ a W hC => ⟨_, by unfold execOp; rw [ho]; rfl, hC.ev hx⟩
def pk (b : Bool) (x y : Operand) : Operand := match b with
  | true => x
  | false => y
theorem OpOK.pick {c x y : Operand} (hd : dok C.nt o.dst = true) (ho : o.op = .pick c x y) {b : Bool} (hc : s.ev c = some (.imm (.bool b))) {v : AV} (hx : s.ev (pk b x y) = some v) : OpOK C s o (s.put o.dst v) :=
  OpOK.quiet hd fun γ κ a W hC => by
    have h := hC.ev hc
    cases h with
    | imm _ _ h =>
      have e := h.bool_inv
      have h2 := hC.ev hx
      refine ⟨_, ?_, h2⟩
      unfold execOp; rw [ho]
      simp only [e]
      cases b <;> rfl
def aField (T : List (Nat × TI)) (t : TypeId) (f : Nat) (v : AV) : Option AV :=
  match look T t with
  | none => none
  | some i => match i.isAgg with
    | false => none
    | true => match nth i.flds f with
      | none => none
      | some (o, n, g) => match v with
        | .agg l => match g with
          | true => some (.agg ((l.drop o).take n))
          | false => nth l o
        | _ => none
theorem field_run {P : Program} {t : TypeId} {fs : Array Field} {fd : Field} {f : Nat} (h1 : P.underlying t = some (.struct fs)) (h2 : fs[f]? = some fd) {xs : Array Value} {z : Value} {w : World} (hz : (part fd.type xs fd.offset).run P w = .ok z w) : (Instr.field t (.agg xs) f).run P w = .ok z w := by
  unfold Instr.field underlying
  simp only [program]
  simp only [asAgg]
  simpa [h1, h2, bind, Sem.bind, pure, Sem.run] using hz
theorem part_agg {P : Program} {t : TypeId} {n : Nat} {w : World} (h1 : (Go.isAgg t).run P w = .ok true w) (h2 : (Go.sizeOf t).run P w = .ok n w) (xs : List Value) (off : Nat) : (part t xs.toArray off).run P w = .ok (.agg ((xs.drop off).take n).toArray) w := by
  unfold part
  rw [run_bind h1]
  simp only [if_true]
  rw [run_bind h2]
  rw [run_pure]
  congr 2
  simp [List.extract_eq_take_drop]
theorem part_one {P : Program} {t : TypeId} {w : World} (h1 : (Go.isAgg t).run P w = .ok false w) (xs : List Value) (off : Nat) {y : Value} (hy : xs[off]? = some y) : (part t xs.toArray off).run P w = .ok y w := by
  unfold part
  rw [run_bind h1]
  simp only [Bool.false_eq_true, if_false, List.getElem?_toArray, hy]
  rfl
theorem OpOK.field (hT : TsOK C.P T) (hd : dok C.nt o.dst = true) {t : TypeId} {x : Operand} {f : Nat} (ho : o.op = .field t x f) {q : AV} (hx : s.ev x = some q) {v : AV} (h : aField T t f q = some v) : OpOK C s o (s.put o.dst v) := by
  unfold aField at h
  split at h
  · cases h
  · rename_i i hi
    split at h
    · cases h
    · rename_i ha
      split at h
      · cases h
      · rename_i off n g hf
        rw [nth_eq] at hf
        obtain ⟨fs, fd, h1, h2, h3, h4, h5⟩ := (hT t i hi).fld ha hf
        split at h
        · rename_i l
          refine OpOK.quiet hd fun γ κ a W hC => ?_
          have hq := hC.ev hx
          have hex : ∀ z, (Instr.field t (a.eval x) f).run C.P W = .ok z W → (execOp a.eval o).run C.P W = .ok (.value z) W := by
            intro z hz
            unfold execOp; rw [ho]
            exact val_run hz
          generalize a.eval x = y at hq hex
          cases hq with
          | agg _ xs hl =>
            split at h
            · obtain rfl := Option.some.inj h
              exact ⟨_, hex _ (field_run h1 h2 (part_agg (h5 W) (h4 W) xs _)), .agg _ _ (by rw [h3]; exact (hl.drop off).take n)⟩
            · rw [nth_eq] at h
              obtain ⟨y, h6, h7⟩ := hl.get h
              exact ⟨y, hex _ (field_run h1 h2 (part_one (h5 W) xs _ (by rw [h3]; exact h6))), h7⟩
        · cases h
def aFieldAddr (T : List (Nat × TI)) (t : TypeId) (f : Nat) (v : AV) : Option AV :=
  match look T t with
  | none => none
  | some i => match i.isAgg with
    | false => none
    | true => match nth i.flds f with
      | none => none
      | some (o, n, g) => match Nat.beq n 0 with
        | true => none
        | false => match v with
          | .ptr id ver row off => some (.ptr id ver row (off + o))
          | .pin l => match l.drop o with
            | [] => none
            | c :: r => some (.pin (c :: r))
          | _ => none
theorem fieldAt_run {P : Program} {t : TypeId} {fs : Array Field} {fd : Field} {f n : Nat} (h1 : P.underlying t = some (.struct fs)) (h2 : fs[f]? = some fd) (h4 : ∀ w, (Go.sizeOf fd.type).run P w = .ok n w) (hn : n ≠ 0) (ad : Addr) (w : World) :
    (Instr.fieldAt t (.pointer (some ad)) f).run P w = .ok (.pointer (some (ad.add fd.offset))) w := by
  unfold Instr.fieldAt underlying
  simp only [program]
  have h5 : (fieldPlace ad fd).run P w = .ok (ad.add fd.offset) w := by
    unfold fieldPlace
    rw [run_bind (h4 w), if_neg hn]
    rfl
  have h6 := run_bind (P := P) (f := fun q => (pure (Value.pointer (some q)) : Sem Value)) h5
  simp only [Instr.sureAddr]
  simpa [h1, h2, bind, Sem.bind, pure, Sem.run] using h6
theorem CellsAt.drop {W : World} {ad : Addr} {ys : List Value} (h : CellsAt W ad ys) (o : Nat) : CellsAt W (ad.add o) (ys.drop o) := by
  intro i y hy
  rw [List.getElem?_drop] at hy
  rw [Addr.add_add]
  exact h _ _ hy
theorem RepA.ptr_val {M : Mm} {id ver row off : Nat} {b : Blk} {x : Value} (h : RepA M (.ptr id ver row off) x) (hb : M.hp[id]? = some b) (hver : ver = b.rows.length) : ∃ g, M.γ id = some g ∧ x = .pointer (some ⟨g, row * b.sz + off, none⟩) := by
  cases h with
  | ptr _ _ _ _ b' q hb' hv hx =>
    rw [hb] at hb'; cases hb'
    obtain ⟨g, h1, h2⟩ := hx hver
    exact ⟨g, h1, by rw [h2]⟩
theorem OpOK.fieldAddr_own (hT : TsOK C.P T) (hd : dok C.nt o.dst = true) {t : TypeId} {x : Operand} {f : Nat} (ho : o.op = .fieldAddr t x f) {i : TI} (hi : look T t = some i) (ha : i.isAgg = true) {off n : Nat} {g : Bool} (hf : nth i.flds f = some (off, n, g)) (hn : n ≠ 0)
    {id ver row o' : Nat} (hx : s.ev x = some (.ptr id ver row o')) {b : Blk} (hb : s.hp[id]? = some b) (hver : ver = b.rows.length) : OpOK C s o (s.put o.dst (.ptr id ver row (o' + off))) :=
  OpOK.quiet hd fun γ κ a W hC => by
    rw [nth_eq] at hf
    obtain ⟨fs, fd, h1, h2, h3, h4, h5⟩ := (hT t i hi).fld ha hf
    obtain ⟨g, hg, e⟩ := (hC.ev hx).ptr_val hb hver
    have hrun := fieldAt_run h1 h2 h4 hn ⟨g, row * b.sz + o', none⟩ W
    refine ⟨_, ?_, .ptr id ver row (o' + off) b _ hb (Nat.le_of_eq hver) fun _ => ⟨g, hg, rfl⟩⟩
    unfold execOp; rw [ho]
    simp only
    rw [e]
    have := val_run hrun
    rw [h3] at this
    have e2 : (⟨g, row * b.sz + o', none⟩ : Addr).add off = ⟨g, row * b.sz + (o' + off), none⟩ := by unfold Addr.add; split <;> simp_all [Nat.add_assoc]
    rw [e2] at this
    exact this
def curB (s : St) (q : AV) : Bool :=
  match q with
  | .ptr id ver _ _ => (match nth s.hp id with
    | some b => Nat.beq ver (len b.rows)
    | none => false)
  | _ => true
theorem OpOK.fieldAddr (hT : TsOK C.P T) (hd : dok C.nt o.dst = true) {t : TypeId} {x : Operand} {f : Nat} (ho : o.op = .fieldAddr t x f) {q : AV} (hx : s.ev x = some q) (hcur : curB s q = true)
    {v : AV} (h : aFieldAddr T t f q = some v) : OpOK C s o (s.put o.dst v) := by
  unfold aFieldAddr at h
  split at h
  · cases h
  · rename_i i hi
    split at h
    · cases h
    · rename_i ha
      split at h
      · cases h
      · rename_i off n g hf
        split at h
        · cases h
        · rename_i hn
          have hn : n ≠ 0 := fun e => by subst e; simp at hn
          split at h
          · rename_i id ver row o'
            simp only [curB] at hcur
            split at hcur
            · rename_i b hb
              have hver := Nat.eq_of_beq_eq_true hcur
              rw [len_eq] at hver
              rw [nth_eq] at hb
              obtain rfl := Option.some.inj h
              exact OpOK.fieldAddr_own hT hd ho hi ha hf hn hx hb hver
            · cases hcur
          · rename_i l
            split at h
            · cases h
            · rename_i c r hl
              obtain rfl := Option.some.inj h
              refine OpOK.quiet hd fun γ κ a W hC => ?_
              have hq := hC.ev hx
              have hex : ∀ z, (Instr.fieldAt t (a.eval x) f).run C.P W = .ok z W → (execOp a.eval o).run C.P W = .ok (.value z) W := by
                intro z hz
                unfold execOp; rw [ho]
                exact val_run hz
              generalize a.eval x = y at hq hex
              rw [nth_eq] at hf
              obtain ⟨fs, fd, h1, h2, h3, h4, h5⟩ := (hT t i hi).fld ha hf
              cases hq with
              | pin _ ad ys h0 hb hy hrep =>
                refine ⟨_, hex _ (fieldAt_run h1 h2 h4 hn ad W), ?_⟩
                rw [h3]
                exact .pin _ _ (ys.drop off) (by simp) (by rw [add_block]; exact hb) (hy.drop off) (by rw [← hl]; exact hrep.drop off)
          · cases h
-- allocations
def aNew (s : St) (ty : TypeId) (cells : List AV) (sz : Nat) : Option (AV × St) :=
  match Nat.blt 0 sz && Nat.beq (len cells) sz && cells.all AV.cell with
  | true => (match s with
    | ⟨e, h⟩ => some (.ptr (len h) 1 0 0, ⟨e, h ++ [⟨ty, sz, [cells]⟩]⟩))
  | false => none
theorem new_ok (hC : Conc C s γ κ a W) {cells : List AV} {sz : Nat} {v : AV} {s1 : St} {ty : TypeId} (h : aNew s ty cells sz = some (v, s1)) {xs : List Value} (hrep : All2 (RepA (s.mm C γ κ W)) cells xs) :
    ∃ γ' κ', Conc C s1 γ' κ' a (W.alloc (.cells xs.toArray ty)) ∧ RepA (s1.mm C γ' κ' (W.alloc (.cells xs.toArray ty))) v (.pointer (some ⟨W.heap.size, 0, none⟩)) := by
  unfold aNew at h
  split at h
  · rename_i hc
    simp only [Bool.and_eq_true, Nat.blt_eq, List.all_eq_true] at hc
    obtain ⟨⟨h1, h2⟩, h3⟩ := hc
    have h2 := Nat.eq_of_beq_eq_true h2
    rw [len_eq] at h2
    obtain ⟨rfl, rfl⟩ : _ = v ∧ _ = s1 := by simpa using h
    obtain ⟨γ', κ', c1, c2, c3, c4⟩ := hC.alloc ⟨ty, sz, [cells]⟩ xs [] 1 h1 (by simpa using h2) (by simpa using h3) (by simp) (by decide) (by simp [← hrep.length, h2]) (by simpa using hrep)
    simp only [List.append_nil] at c1 c4
    refine ⟨γ', κ', c1, ?_⟩
    rw [len_eq]
    refine .ptr s.hp.length 1 0 0 ⟨ty, sz, [cells]⟩ _ ?_ (Nat.le_refl _) fun _ => ⟨W.heap.size, c2, by simp⟩
    show (s.hp ++ [_])[s.hp.length]? = _
    simp
  · cases h
theorem OpOK.alloc (hT : TsOK C.P T) (hd : dok C.nt o.dst = true) {t : TypeId} (ho : o.op = .alloc t) {i : TI} (hi : look T t = some i) {v : AV} {s1 : St} (h : aNew s t i.zero i.sz = some (v, s1)) : OpOK C s o (s1.put o.dst v) :=
  OpOK.val hd fun γ κ a W hC => by
    obtain ⟨z, h1, h2⟩ := (hT t i hi).zeroValue
    obtain ⟨γ', κ', c1, c2⟩ := new_ok hC h (constAVs_rep h1)
    refine ⟨_, γ', κ', _, ?_, c1, c2⟩
    unfold execOp; rw [ho]
    refine val_run ?_
    unfold Instr.alloc
    rw [run_bind (h2 W), Array.toArray_toList]
    rfl
theorem OpOK.box (hd : dok C.nt o.dst = true) {t : TypeId} {x : Operand} (ho : o.op = .box t x) {q : AV} (hx : s.ev x = some q) {v : AV} {s1 : St} (h : aNew s t (avCells q) (len (avCells q)) = some (v, s1)) : OpOK C s o (s1.put o.dst v) :=
  OpOK.val hd fun γ κ a W hC => by
    obtain ⟨γ', κ', c1, c2⟩ := new_ok hC h (hC.ev hx).cells
    refine ⟨_, γ', κ', _, ?_, c1, c2⟩
    unfold execOp; rw [ho]
    refine val_run ?_
    unfold Instr.box
    rw [Array.toArray_toList]
    rfl
def aStore (T : List (Nat × TI)) (s : St) (t : TypeId) (p v : AV) : Option St :=
  match look T t with
  | none => none
  | some i => match p with
    | .ptr id ver row off => match nth s.hp id with
      | none => none
      | some b => match Nat.beq ver (len b.rows) && Nat.beq (len (avCells v)) i.sz && (avCells v).all AV.cell && Nat.ble (off + i.sz) b.sz with
        | false => none
        | true => match nth b.rows row with
          | none => none
          | some r => (match s, b with
            | ⟨e, h⟩, ⟨ty, sz, rows⟩ => some ⟨e, h.set id ⟨ty, sz, rows.set row (putRow sz i.sz r off (avCells v))⟩⟩)
    | _ => none
theorem OpOK.store_own (hT : TsOK C.P T) (hd : o.dst = none) {t : TypeId} {p x : Operand} (ho : o.op = .store t p x) {i : TI} (hi : look T t = some i) {id ver row off : Nat} (hp : s.ev p = some (.ptr id ver row off)) {v : AV} (hx : s.ev x = some v)
    {b : Blk} (hb : s.hp[id]? = some b) (hver : ver = b.rows.length) (hlen : (avCells v).length = i.sz) (hcell : (avCells v).all AV.cell = true) (hfit : off + i.sz ≤ b.sz) {r : List AV} (hr : b.rows[row]? = some r) :
    OpOK C s o ⟨s.env, s.hp.set id ⟨b.ty, b.sz, b.rows.set row (putRow b.sz i.sz r off (avCells v))⟩⟩ :=
  OpOK.skip hd fun γ κ a W hC => by
    obtain ⟨W', h1, h2⟩ := st_own hC (hT t i hi) hb hver hr hlen hcell hfit (hC.ev hp) (hC.ev hx)
    refine ⟨γ, κ, W', ?_, h2⟩
    unfold execOp; rw [ho]
    exact unit_run h1
theorem OpOK.store (hT : TsOK C.P T) (hd : o.dst = none) {t : TypeId} {p x : Operand} (ho : o.op = .store t p x) {q v : AV} (hp : s.ev p = some q) (hx : s.ev x = some v) {s1 : St} (h : aStore T s t q v = some s1) : OpOK C s o s1 := by
  unfold aStore at h
  split at h
  · cases h
  · rename_i i hi
    split at h
    · rename_i id ver row off
      split at h
      · cases h
      · rename_i b hb
        split at h
        · cases h
        · rename_i hc
          simp only [Bool.and_eq_true] at hc
          obtain ⟨⟨⟨h1, h2⟩, h3⟩, h4⟩ := hc
          have h1 := Nat.eq_of_beq_eq_true h1
          have h2 := Nat.eq_of_beq_eq_true h2
          have h4 := Nat.le_of_ble_eq_true h4
          rw [len_eq] at h1 h2
          split at h
          · cases h
          · rename_i r hr
            rw [nth_eq] at hr hb
            obtain rfl := Option.some.inj h
            exact OpOK.store_own hT hd ho hi hp hx hb h1 h2 h3 h4 hr
    · cases h
end
end Go.Proofs.YtjjdabihnmilgaaGreat.A
namespace Go.Proofs.YtjjdabihnmilgaaGreat.A
open Go.RowKit
set_option linter.unusedVariables false
set_option linter.unusedSimpArgs false
section
variable {C : Cx} {s : St} {γ : Nat → Option Nat} {κ : Nat → Nat} {a : Act} {W : World} {o : Oper} {T : List (Nat × TI)}
def aEx (i : Nat) (v : AV) : Option AV :=
  match v with
  | .tup l => nth l i
  | _ => none
theorem OpOK.extract (hd : dok C.nt o.dst = true) {x : Operand} {i : Nat} (ho : o.op = .extract x i) {q : AV} (hx : s.ev x = some q) {v : AV} (h : aEx i q = some v) : OpOK C s o (s.put o.dst v) := by
  unfold aEx at h
  split at h
  · rw [nth_eq] at h
    refine OpOK.quiet hd fun γ κ a W hC => ?_
    have hq := hC.ev hx
    have hex : ∀ z, (Instr.extract (a.eval x) i).run C.P W = .ok z W → (execOp a.eval o).run C.P W = .ok (.value z) W := by
      intro z hz; unfold execOp; rw [ho]; exact val_run hz
    generalize a.eval x = y at hq hex
    cases hq with
    | tup _ xs hl =>
      obtain ⟨z, h1, h2⟩ := hl.get h
      refine ⟨z, hex z ?_, h2⟩
      unfold Instr.extract
      simp only [List.getElem?_toArray, h1]
      rfl
  · cases h
def evs (s : St) : List Operand → Option (List AV)
  | [] => some []
  | x :: l => match s.ev x with
    | none => none
    | some v => match evs s l with
      | none => none
      | some vs => some (v :: vs)
theorem Conc.evs (hC : Conc C s γ κ a W) : ∀ {l : List Operand} {vs : List AV}, A.evs s l = some vs → All2 (RepA (s.mm C γ κ W)) vs (l.map a.eval)
  | [], vs, h => by simp only [A.evs, Option.some.injEq] at h; subst h; exact .nil
  | x :: l, vs, h => by
    simp only [A.evs] at h
    split at h
    · cases h
    · rename_i v hv
      split at h
      · cases h
      · rename_i vs' hvs
        obtain rfl := Option.some.inj h
        exact .cons (hC.ev hv) (hC.evs hvs)
def aFn (f : Nat) (caps : List AV) : AV :=
  match caps with
  | [] => .imm (.fn f)
  | c :: r => .fn f (c :: r)
theorem OpOK.makeFunc (hd : dok C.nt o.dst = true) {f : Nat} {caps : Array Operand} (ho : o.op = .makeFunc (.func f) #[] caps) {vs : List AV} (hx : evs s caps.toList = some vs) : OpOK C s o (s.put o.dst (aFn f vs)) :=
  OpOK.quiet hd fun γ κ a W hC => by
    have hq := hC.evs hx
    refine ⟨.func (.func f) #[] (caps.map a.eval), ?_, ?_⟩
    · unfold execOp; rw [ho]
      show (do pure (Next.value (← Instr.makeFunc (.func f) ((#[] : Array Operand).map a.eval) (caps.map a.eval))) : Sem Next).run C.P W = _
      rw [Array.map_empty]; exact val_run rfl
    · have e : caps.map a.eval = (caps.toList.map a.eval).toArray := by apply Array.toList_inj.1; simp
      rw [e]
      generalize caps.toList.map a.eval = xs at hq
      unfold aFn
      cases hq with
      | nil => exact .imm _ _ (.fn _)
      | cons h1 h2 => exact .fn _ _ _ (.cons h1 h2)
theorem OpOK.not (hd : dok C.nt o.dst = true) {x : Operand} {t : TypeId} (ho : o.op = .unOp .not t x) {b : Bool} (hx : s.ev x = some (.imm (.bool b))) : OpOK C s o (s.put o.dst (.imm (.bool !b))) :=
  OpOK.quiet hd fun γ κ a W hC => by
    have hq := hC.ev hx
    cases hq with
    | imm _ _ h =>
      refine ⟨_, ?_, .imm _ _ (.bool _)⟩
      unfold execOp; rw [ho]
      simp only [h.bool_inv]
      rfl
theorem OpOK.neg (hd : dok C.nt o.dst = true) {x : Operand} {t : TypeId} (ho : o.op = .unOp .neg t x) {k : IntKind} {n : Int} (hx : s.ev x = some (.imm (.int k n))) : OpOK C s o (s.put o.dst (.imm (.int k (k.wrap (0 - n))))) :=
  OpOK.quiet hd fun γ κ a W hC => by
    have hq := hC.ev hx
    cases hq with
    | imm _ _ h =>
      refine ⟨_, ?_, .imm _ _ (.int _ _)⟩
      unfold execOp; rw [ho]
      simp only [h.int_inv]
      rfl
theorem eqGuard_run {P : Program} {op : BinOp} {t : TypeId} {x y : Operand} {u v : Value} (h : (match u, v with | .nilIface, .nilIface => false | .agg _, .agg _ => false | _, _ => true) = true) (w : World) : (eqGuard op t x y u v).run P w = .ok () w := by
  cases u <;> cases v <;> first | (simp at h; done) | (unfold eqGuard; cases op <;> rfl)
theorem bin_run {op : BinOp} {t t2 : TypeId} {x y : Operand} (ho : o.op = .binOp op t x y t2) {P : Program} {ρ : Operand → Value} {z : Value} {w : World} (h1 : (eqGuard op t x y (ρ x) (ρ y)).run P w = .ok () w) (h2 : (binOp op t (ρ x) (ρ y)).run P w = .ok z w) : (execOp ρ o).run P w = .ok (.value z) w := by
  unfold execOp; rw [ho]
  refine val_run ?_
  rw [run_bind h1]; exact h2
/-- decided, without a way to reckon it. -/
noncomputable def dec (p : Prop) : Bool := @decide p (Classical.propDecidable p)
theorem dec_eq (p : Prop) [h : Decidable p] : dec p = decide p := by
  unfold dec
  congr
theorem dec_true (p : Prop) : (dec p = true) = p := by simp [dec_eq, dec]
theorem dec_false (p : Prop) : (dec p = false) = ¬ p := by simp [dec]
theorem dec_T : dec True = true := by simp [dec]
theorem dec_F : dec False = false := by simp [dec]
theorem dec_pos {p : Prop} (h : p) : dec p = true := by rw [dec_true]; exact h
theorem dec_neg {p : Prop} (h : ¬ p) : dec p = false := by rw [dec_false]; exact h
noncomputable def iCmp (op : BinOp) (a b : Int) : Option Bool :=
  match op with
  | .eql => some (dec (a = b))
  | .neq => some (!dec (a = b))
  | .lss => some (dec (a < b))
  | .leq => some (dec (a ≤ b))
  | .gtr => some (dec (b < a))
  | .geq => some (dec (b ≤ a))
  | _ => none
def iAri (op : BinOp) (a b : Int) : Option Int :=
  match op with
  | .add => some (a + b)
  | .sub => some (a - b)
  | .mul => some (a * b)
  | _ => none
theorem OpOK.cmp (hd : dok C.nt o.dst = true) {op : BinOp} {t t2 : TypeId} {x y : Operand} (ho : o.op = .binOp op t x y t2) {k : IntKind} {m n : Int} (hx : s.ev x = some (.imm (.int k m))) (hy : s.ev y = some (.imm (.int k n))) {b : Bool} (h : iCmp op m n = some b) : OpOK C s o (s.put o.dst (.imm (.bool b))) :=
  OpOK.quiet hd fun γ κ a W hC => by
    have h1 := hC.ev hx
    have h2 := hC.ev hy
    cases h1 with
    | imm _ _ h1 => cases h2 with
      | imm _ _ h2 =>
        refine ⟨.bool b, ?_, .imm _ _ (.bool _)⟩
        refine bin_run ho (by rw [h1.int_inv, h2.int_inv]; exact eqGuard_run rfl W) ?_
        rw [h1.int_inv, h2.int_inv]
        unfold iCmp at h
        split at h <;> first | (cases h; done) | (obtain rfl := Option.some.inj h; simp [binOp, Op.intCmp, pure, Sem.run, dec_eq]; done) | (obtain rfl := Option.some.inj h; simp [binOp, Op.intCmp, pure, Sem.run, dec_eq, bne]; rw [Bool.eq_iff_iff]; simp; done)
theorem OpOK.ari (hd : dok C.nt o.dst = true) {op : BinOp} {t t2 : TypeId} {x y : Operand} (ho : o.op = .binOp op t x y t2) {k : IntKind} {m n : Int} (hx : s.ev x = some (.imm (.int k m))) (hy : s.ev y = some (.imm (.int k n))) {z : Int} (h : iAri op m n = some z) : OpOK C s o (s.put o.dst (.imm (.int k (k.wrap z)))) :=
  OpOK.quiet hd fun γ κ a W hC => by
    have h1 := hC.ev hx
    have h2 := hC.ev hy
    cases h1 with
    | imm _ _ h1 => cases h2 with
      | imm _ _ h2 =>
        refine ⟨.int k (k.wrap z), ?_, .imm _ _ (.int _ _)⟩
        refine bin_run ho (by rw [h1.int_inv, h2.int_inv]; exact eqGuard_run rfl W) ?_
        rw [h1.int_inv, h2.int_inv]
        unfold iAri at h
        split at h <;> first | (cases h; done) | (obtain rfl := Option.some.inj h; simp [binOp, Op.intArith, pure, Sem.run])
theorem i64_id {n : Int} (h0 : -9223372036854775808 ≤ n) (h1 : n ≤ 9223372036854775807) : IntKind.i64.wrap n = n := by
  simp [IntKind.wrap, IntKind.bits, IntKind.signed]
  omega
theorem OpOK.ari64 (hd : dok C.nt o.dst = true) {op : BinOp} {t t2 : TypeId} {x y : Operand} (ho : o.op = .binOp op t x y t2) {m n : Int} (hx : s.ev x = some (.imm (.int .i64 m))) (hy : s.ev y = some (.imm (.int .i64 n))) {z : Int} (h : iAri op m n = some z)
    (h0 : -9223372036854775808 ≤ z) (h1 : z ≤ 9223372036854775807) : OpOK C s o (s.put o.dst (.imm (.int .i64 z))) := by
  have := OpOK.ari hd ho hx hy h
  rwa [i64_id h0 h1] at this
theorem bytes_eq (x y : ByteArray) : (x.toList == y.toList) = decide (x = y) := by
  rw [Bool.eq_iff_iff]
  simp only [beq_iff_eq, decide_eq_true_eq]
  constructor
  · intro h
    have h1 : x.data.toList = y.data.toList := by rw [← ByteArray.toList_eq, ← ByteArray.toList_eq]; exact h
    cases x; cases y
    simp only [ByteArray.mk.injEq]
    exact Array.toList_inj.1 h1
  · intro h; rw [h]
noncomputable def sCmp (op : BinOp) (x y : ByteArray) : Option Bool :=
  match op with
  | .eql => some (dec (x = y))
  | .neq => some (!dec (x = y))
  | _ => none
theorem OpOK.scmp (hd : dok C.nt o.dst = true) {op : BinOp} {t t2 : TypeId} {x y : Operand} (ho : o.op = .binOp op t x y t2) {m n : ByteArray} (hx : s.ev x = some (.imm (.str m))) (hy : s.ev y = some (.imm (.str n))) {b : Bool} (h : sCmp op m n = some b) : OpOK C s o (s.put o.dst (.imm (.bool b))) :=
  OpOK.quiet hd fun γ κ a W hC => by
    have h1 := hC.ev hx
    have h2 := hC.ev hy
    cases h1 with
    | imm _ _ h1 => cases h2 with
      | imm _ _ h2 =>
        refine ⟨.bool b, ?_, .imm _ _ (.bool _)⟩
        refine bin_run ho (by rw [h1.str_inv, h2.str_inv]; exact eqGuard_run rfl W) ?_
        rw [h1.str_inv, h2.str_inv]
        unfold sCmp at h
        split at h <;> first | (cases h; done) | (obtain rfl := Option.some.inj h; simp only [binOp, Op.stringOp, bytes_eq, dec_eq]; rfl)
def bCmp (op : BinOp) (x y : Bool) : Option Bool :=
  match op with
  | .eql => some (x == y)
  | .neq => some (!(x == y))
  | _ => none
theorem und_run {P : Program} {t : TypeId} {d : TypeDesc} (h : P.underlying t = some d) (w : World) : (underlying t).run P w = .ok d w := by
  unfold underlying
  simp only [program]
  simp [h, bind, Sem.bind, pure, Sem.run]
theorem OpOK.bcmp (hT : TsOK C.P T) (hd : dok C.nt o.dst = true) {op : BinOp} {t t2 : TypeId} {x y : Operand} (ho : o.op = .binOp op t x y t2) {i : TI} (hi : look T t = some i) (hk : (match i.kd with | .bool => true | _ => false) = true) {m n : Bool} (hx : s.ev x = some (.imm (.bool m))) (hy : s.ev y = some (.imm (.bool n))) {b : Bool} (h : bCmp op m n = some b) : OpOK C s o (s.put o.dst (.imm (.bool b))) :=
  OpOK.quiet hd fun γ κ a W hC => by
    have h1 := hC.ev hx
    have h2 := hC.ev hy
    obtain ⟨d, hd1, hd2, _⟩ := (hT t i hi).und
    have hd3 : d = .bool := by
      rw [← hd2] at hk
      cases d <;> first | rfl | (simp [kdOf] at hk)
    subst hd3
    cases h1 with
    | imm _ _ h1 => cases h2 with
      | imm _ _ h2 =>
        refine ⟨.bool b, ?_, .imm _ _ (.bool _)⟩
        refine bin_run ho (by rw [h1.bool_inv, h2.bool_inv]; exact eqGuard_run rfl W) ?_
        rw [h1.bool_inv, h2.bool_inv]
        have he : (Op.equal t (.bool m) (.bool n)).run C.P W = .ok (m == n) W := by
          unfold Op.equal Op.maxDepth Op.equalIn
          rw [run_bind (und_run hd1 W)]
          rfl
        unfold bCmp at h
        split at h <;> first | (cases h; done) | (obtain rfl := Option.some.inj h; simp only [binOp]; rw [run_bind he]; rfl)
theorem OpOK.convInt (hT : TsOK C.P T) (hd : dok C.nt o.dst = true) {t t2 : TypeId} {x : Operand} (ho : o.op = .convert t t2 x) {i i2 : TI} (hi : look T t = some i) (hi2 : look T t2 = some i2) {k k2 : IntKind} (hk : i2.kd = .int k2) {n : Int} (hx : s.ev x = some (.imm (.int k n))) : OpOK C s o (s.put o.dst (.imm (.int k2 (k2.wrap n)))) :=
  OpOK.quiet hd fun γ κ a W hC => by
    have h1 := hC.ev hx
    obtain ⟨d, hd1, hd2, _⟩ := (hT t i hi).und
    obtain ⟨e, he1, he2, _⟩ := (hT t2 i2 hi2).und
    have hd3 : e = .int k2 := by
      rw [hk] at he2
      cases e <;> simp [kdOf] at he2
      rw [he2]
    subst hd3
    cases h1 with
    | imm _ _ h1 =>
      refine ⟨_, ?_, .imm _ _ (.int _ _)⟩
      unfold execOp; rw [ho]
      refine val_run ?_
      rw [h1.int_inv]
      unfold convert
      rw [run_bind (und_run hd1 W), run_bind (und_run he1 W)]
      rfl
def isPtr (s : St) (q : AV) : Bool :=
  match q with
  | .ptr id ver _ _ => (match nth s.hp id with
    | some b => Nat.beq ver (len b.rows)
    | none => false)
  | .pin _ => true
  | .fn _ _ => true
  | .imm (.fn _) => true
  | _ => false
theorem OpOK.nilCheck (hd : dok C.nt o.dst = true) {x : Operand} (ho : o.op = .nilCheck x) {q : AV} (hx : s.ev x = some q) (hq : isPtr s q = true) : OpOK C s o (s.put o.dst q) :=
  OpOK.quiet hd fun γ κ a W hC => by
    have h1 := hC.ev hx
    refine ⟨a.eval x, ?_, h1⟩
    unfold execOp; rw [ho]
    simp only
    generalize a.eval x = y at h1
    unfold isPtr at hq
    split at hq
    · split at hq
      · rename_i b hb
        have hver := Nat.eq_of_beq_eq_true hq
        rw [len_eq] at hver
        rw [nth_eq] at hb
        obtain ⟨g, _, rfl⟩ := h1.ptr_val hb hver
        rfl
      · cases hq
    · cases h1; rfl
    · cases h1; rfl
    · cases h1 with
      | imm _ _ h => cases h; rfl
    · cases hq
def aLen (s : St) (i : TI) (v : AV) : Option Int :=
  match i.kd with
  | .sl _ => (match v with
    | .imm (.sl rows) => some rows.length
    | .nils => some 0
    | .os id n => (match nth s.hp id with
      | some b => (match Nat.beq n (len b.rows) with
        | true => some n
        | false => none)
      | none => none)
    | _ => none)
  | .str => (match v with
    | .imm (.str t) => some t.size
    | _ => none)
  | _ => none
theorem RepA.os_val {M : Mm} {id n : Nat} {b : Blk} {x : Value} (h : RepA M (.os id n) x) (hb : M.hp[id]? = some b) (hver : n = b.rows.length) : x = .slice ((M.γ id).map fun g => ⟨g, 0, none⟩) n (M.κ id) := by
  cases h with
  | os _ _ b' A k c hb' hv hx =>
    rw [hb] at hb'; cases hb'
    obtain ⟨h1, h2, h3⟩ := hx hver
    rw [h1, h2, h3]
theorem kd_sl {d : TypeDesc} {e : TypeId} (h : kdOf d = .sl e) : d = .slice e := by
  cases d <;> simp [kdOf] at h
  rw [h]
theorem kd_str {d : TypeDesc} (h : kdOf d = .str) : d = .string := by
  cases d <;> simp [kdOf] at h
  rfl
theorem call_builtin {b : Builtin} {args : Array Operand} {ats : Array TypeId} (ho : o.op = .call ⟨.builtin b, args, ats⟩) {P : Program} {ρ : Operand → Value} {w : World} :
    (execOp ρ o).run P w = (builtin b ats o.type (args.map fun | .const _ => true | _ => false) (args.map ρ)).run P w := by
  unfold execOp; rw [ho]
  rfl
theorem OpOK.blen (hT : TsOK C.P T) (hd : dok C.nt o.dst = true) {x : Operand} {t : TypeId} (ho : o.op = .call ⟨.builtin .len, #[x], #[t]⟩) {i : TI} (hi : look T t = some i) {q : AV} (hx : s.ev x = some q) {n : Int} (h : aLen s i q = some n) : OpOK C s o (s.put o.dst (.imm (.int .i64 n))) :=
  OpOK.quiet hd fun γ κ a W hC => by
    have h1 := hC.ev hx
    refine ⟨.int .i64 n, ?_, .imm _ _ (.int _ _)⟩
    rw [call_builtin ho]
    have key : (Builtin.len_ #[t] o.type #[a.eval x]).run C.P W = .ok (.int .i64 n) W → (builtin .len #[t] o.type ((#[x] : Array Operand).map fun | .const _ => true | _ => false) ((#[x] : Array Operand).map a.eval)).run C.P W = .ok (.value (.int .i64 n)) W := by
      intro h
      simp only [builtin, List.map_toArray, List.map_cons, List.map_nil]
      rw [run_bind h]; rfl
    refine key ?_
    generalize a.eval x = y at h1
    obtain ⟨d, hd1, hd2, _⟩ := (hT t i hi).und
    unfold aLen at h
    unfold Builtin.len_
    simp only [List.getElem?_toArray, List.getElem?_cons_zero]
    split at h
    · rename_i e he
      rw [he] at hd2
      obtain rfl := kd_sl hd2
      rw [run_bind (und_run hd1 W)]
      split at h
      · obtain rfl := Option.some.inj h
        cases h1 with
        | imm _ _ h1 =>
          obtain ⟨A, c, rfl, _⟩ := h1.sl_inv
          rfl
      · obtain rfl := Option.some.inj h
        cases h1; rfl
      · split at h
        · rename_i b hb
          split at h
          · rename_i hver
            have hver := Nat.eq_of_beq_eq_true hver
            rw [len_eq] at hver
            rw [nth_eq] at hb
            obtain rfl := Option.some.inj h
            rw [h1.os_val hb hver]
            rfl
          · cases h
        · cases h
      · cases h
    · rename_i he
      rw [he] at hd2
      obtain rfl := kd_str hd2
      rw [run_bind (und_run hd1 W)]
      split at h
      · obtain rfl := Option.some.inj h
        cases h1 with
        | imm _ _ h1 => rw [h1.str_inv]; rfl
      · cases h
    · cases h
end
end Go.Proofs.YtjjdabihnmilgaaGreat.A
