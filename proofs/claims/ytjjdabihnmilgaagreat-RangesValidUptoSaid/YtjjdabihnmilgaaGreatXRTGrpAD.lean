/- The abstract walk, part K: append and make at the operation; contracts of functions that only compute; calls of them; a function's beginning and end; weaker states. -/
import Derived.Test.YtjjdabihnmilgaaGreatXRTGrpAC
namespace Go.Proofs.YtjjdabihnmilgaaGreat.A
open Go.RowKit
set_option linter.unusedVariables false
set_option linter.unusedSimpArgs false
section
variable {C : Cx} {s : St} {γ : Nat → Option Nat} {κ : Nat → Nat} {a : Act} {W : World} {o : Oper} {T : List (Nat × TI)}
/-- An own row that has no place yet. -/
theorem Conc.reserve (hC : Conc C s γ κ a W) (ty sz : Nat) (hpos : 0 < sz) : ∃ γ' κ', Conc C ⟨s.env, s.hp ++ [⟨ty, sz, []⟩]⟩ γ' κ' a W ∧ γ' s.hp.length = none ∧ κ' s.hp.length = 0 ∧ Keep (s.mm C γ κ W) (St.mm ⟨s.env, s.hp ++ [⟨ty, sz, []⟩]⟩ C γ' κ' W) := by
  let γ' : Nat → Option Nat := fun i => if i = s.hp.length then none else γ i
  let κ' : Nat → Nat := fun i => if i = s.hp.length then 0 else κ i
  have hγ : ∀ i, i ≠ s.hp.length → γ' i = γ i := fun i hi => by simp [γ', hi]
  have hκ : ∀ i, i ≠ s.hp.length → κ' i = κ i := fun i hi => by simp [κ', hi]
  have hγn : γ' s.hp.length = none := by simp [γ']
  have hκn : κ' s.hp.length = 0 := by simp [κ']
  have hKeep : Keep (s.mm C γ κ W) (St.mm ⟨s.env, s.hp ++ [⟨ty, sz, []⟩]⟩ C γ' κ' W) := by
    refine ⟨fun x hx ⟨o, ho⟩ => ⟨rfl, ?_⟩, fun id bb hbb => ⟨bb, ?_, rfl, Nat.le_refl _, fun _ => ?_⟩⟩
    · rintro (h | ⟨i, hi, hg⟩)
      · exact hx (.inl h)
      · have hi' : i < s.hp.length + 1 := by simpa using hi
        by_cases e : i = s.hp.length
        · subst e; rw [hγn] at hg; cases hg
        · rw [hγ i e] at hg
          exact hx (.inr ⟨i, by omega, hg⟩)
    · show (s.hp ++ _)[id]? = some bb
      have hbb' : s.hp[id]? = some bb := hbb
      rw [List.getElem?_append_left (List.getElem?_eq_some_iff.1 hbb').1]; exact hbb'
    · have hi : id < s.hp.length := (List.getElem?_eq_some_iff.1 hbb).1
      exact ⟨hγ id (by omega), hκ id (by omega)⟩
  refine ⟨γ', κ', ⟨hC.size, hC.defers, ?_, ?_, ?_, ?_, hC.xlt, hC.old, hC.hos, hC.htape, hC.hout, hC.hsize, ?_⟩, hγn, hκn, hKeep⟩
  · intro t v h
    obtain ⟨x, h1, h2⟩ := hC.env t v h
    exact ⟨x, h1, h2.keep hKeep⟩
  · intro id bb hbb
    have hbb' : (s.hp ++ [⟨ty, sz, []⟩])[id]? = some bb := hbb
    rcases Nat.lt_or_ge id s.hp.length with hi | hi
    · rw [List.getElem?_append_left hi] at hbb'
      have ho := hC.blk id bb hbb'
      refine ⟨ho.pos, ho.rows, ho.cell, ?_, ?_, ?_⟩
      · show _ ≤ κ' id
        rw [hκ id (by omega)]; exact ho.cap
      · show κ' id ≤ _
        rw [hκ id (by omega)]; exact ho.capm
      rcases ho.mem with ⟨h1, h2, h3⟩ | ⟨g', ys', sp', h1, h2, h3, h4⟩
      · exact .inl ⟨by show γ' id = none; rw [hγ id (by omega)]; exact h1, h2, by show κ' id = 0; rw [hκ id (by omega)]; exact h3⟩
      · exact .inr ⟨g', ys', sp', by show γ' id = _; rw [hγ id (by omega)]; exact h1, h2, by show _ = κ' id * _; rw [hκ id (by omega)]; exact h3, h4.mono fun _ _ h => h.keep hKeep⟩
    · rw [List.getElem?_append_right hi] at hbb'
      have : id = s.hp.length := by
        rcases Nat.eq_or_lt_of_le hi with e | e
        · exact e.symm
        · rw [List.getElem?_eq_none (by simp; omega)] at hbb'; cases hbb'
      subst this
      simp at hbb'
      subst hbb'
      exact ⟨hpos, by simp, by simp, by simp, by show κ' _ ≤ _; rw [hκn]; exact Nat.zero_le _, .inl ⟨hγn, rfl, hκn⟩⟩
  · intro i j g hi hj h1 h2
    have hi' : i < s.hp.length + 1 := by simpa using hi
    have hj' : j < s.hp.length + 1 := by simpa using hj
    by_cases e1 : i = s.hp.length
    · rw [e1, hγn] at h1; cases h1
    · by_cases e2 : j = s.hp.length
      · rw [e2, hγn] at h2; cases h2
      · rw [hγ i e1] at h1; rw [hγ j e2] at h2
        exact hC.inj i j g (by omega) (by omega) h1 h2
  · intro i g hi hg
    have hi' : i < s.hp.length + 1 := by simpa using hi
    by_cases e1 : i = s.hp.length
    · rw [e1, hγn] at hg; cases hg
    · rw [hγ i e1] at hg
      exact hC.own i g (by omega) hg
  · exact hC.lent.keep hKeep
/-- What is appended. -/
def SrcA (C : Cx) (s : St) (ie : TI) (tx : TypeId) (y : Operand) (rows2 : List (List AV)) : Prop :=
  (∀ r ∈ rows2, r.length = ie.sz) ∧ (∀ c ∈ rows2.flatten, c.cell = true) ∧
  ∀ γ κ a W, Conc C s γ κ a W → ∃ news, Src C.P ie.sz tx (a.eval y) rows2.length news W ∧ All2 (RepA (s.mm C γ κ W)) rows2.flatten news
theorem SrcA.nil (hT : TsOK C.P T) {ie : TI} {tx : TypeId} {y : Operand} {i : TI} (hi : look T tx = some i) {e : TypeId} (hk : i.kd = .sl e) (hy : s.ev y = some .nils) : SrcA C s ie tx y [] := by
  refine ⟨by simp, by simp, fun γ κ a W hC => ⟨[], ?_, .nil⟩⟩
  obtain ⟨d, d1, d2, _⟩ := (hT tx i hi).und
  rw [hk] at d2
  obtain rfl := kd_sl d2
  have h := hC.ev hy
  generalize a.eval y = yv at h
  cases h
  exact Src.ofNil W d1 0
theorem SrcA.imm (hT : TsOK C.P T) {ie : TI} {tx : TypeId} {y : Operand} {i : TI} (hi : look T tx = some i) {e : TypeId} (hk : i.kd = .sl e) {rows : List (List IV)} (hy : s.ev y = some (.imm (.sl rows))) (hl : ∀ r ∈ rows, r.length = ie.sz) : SrcA C s ie tx y (rows.map (·.map .imm)) := by
  refine ⟨fun r hr => by obtain ⟨q, hq, rfl⟩ := List.mem_map.1 hr; simpa using hl q hq, fun c hc => ?_, fun γ κ a W hC => ?_⟩
  · obtain ⟨q, hq, hc⟩ := List.mem_flatten.1 hc
    obtain ⟨p, hp, rfl⟩ := List.mem_map.1 hq
    obtain ⟨v, _, rfl⟩ := List.mem_map.1 hc
    rfl
  obtain ⟨d, d1, d2, _⟩ := (hT tx i hi).und
  rw [hk] at d2
  obtain rfl := kd_sl d2
  have h := hC.ev hy
  generalize a.eval y = yv at h
  cases h with
  | imm _ _ h =>
    cases h with
    | nil A c =>
      refine ⟨[], ?_, .nil⟩
      cases A with
      | none => exact Src.ofNil W d1 c
      | some ad => exact Src.ofSlice W d1 ad 0 c [] (by simp) (by simp) (by simp)
    | sl _ ad n c sz ys g0 hsz hn hc hb hrl hyc hrep =>
      have esz : sz = ie.sz := by
        cases rows with
        | nil => exact absurd rfl g0
        | cons r l => rw [← hrl r (by simp)]; exact hl r (by simp)
      subst esz
      refine ⟨ys, ?_, ?_⟩
      · rw [List.length_map, ← hn]
        refine Src.ofSlice W d1 ad n c ys (by rw [← hrep.length, flat_len hrl, hn]) hyc (fun u hu => ?_)
        obtain ⟨j, hj⟩ := List.mem_iff_getElem?.1 hu
        obtain ⟨v, _, hv⟩ := hrep.get' hj
        exact hv.one
      · rw [← List.map_flatten]
        exact imm_all hrep
theorem SrcA.own (hT : TsOK C.P T) {ie : TI} {tx : TypeId} {y : Operand} {i : TI} (hi : look T tx = some i) {e : TypeId} (hk : i.kd = .sl e) {id n : Nat} (hy : s.ev y = some (.os id n)) {b : Blk} (hb : nth s.hp id = some b) (hver : n = b.rows.length) (hsz : b.sz = ie.sz)
    (hr : ∀ r ∈ b.rows, r.length = ie.sz) (hc : ∀ c ∈ b.rows.flatten, c.cell = true) : SrcA C s ie tx y b.rows := by
  refine ⟨hr, hc, fun γ κ a W hC => ?_⟩
  rw [nth_eq] at hb
  obtain ⟨d, d1, d2, _⟩ := (hT tx i hi).und
  rw [hk] at d2
  obtain rfl := kd_sl d2
  have hB := hC.blk id b hb
  rw [(hC.ev hy).os_val hb hver]
  rcases hB.mem with ⟨h1, h2, h3⟩ | ⟨g, ys, sp, h1, h2, h3, h4⟩
  · refine ⟨[], ?_, by rw [h2]; exact .nil⟩
    have e1 : n = 0 := by rw [hver, h2]; rfl
    rw [h1, h2, e1]
    exact Src.ofNil W d1 _
  · refine ⟨ys, ?_, h4⟩
    rw [h1, hver]
    refine Src.ofSlice W d1 ⟨g, 0, none⟩ b.rows.length _ ys (by rw [← h4.length, flat_len hr]) (fun j u hj => ?_) (one_all h4 hc)
    have e : (⟨g, 0, none⟩ : Addr).add j = ⟨g, 0 + j, none⟩ := by unfold Addr.add; split <;> simp_all
    rw [e, blk_cell (W := W) h2]
    simp only [List.getElem?_toArray, Nat.zero_add]
    rw [List.getElem?_append_left (List.getElem?_eq_some_iff.1 hj).1]; exact hj
def byteRows (t : ByteArray) : List (List AV) := t.data.toList.map fun b => [.imm (.int .u8 b.toNat)]
theorem SrcA.str (hT : TsOK C.P T) {ie : TI} {tx : TypeId} {y : Operand} {i : TI} (hi : look T tx = some i) (hk : i.kd = .str) {t : ByteArray} (hy : s.ev y = some (.imm (.str t))) (h1 : ie.sz = 1) : SrcA C s ie tx y (byteRows t) := by
  refine ⟨fun r hr => by obtain ⟨q, hq, rfl⟩ := List.mem_map.1 hr; simp [h1], fun c hc => ?_, fun γ κ a W hC => ?_⟩
  · obtain ⟨q, hq, hc⟩ := List.mem_flatten.1 hc
    obtain ⟨p, hp, rfl⟩ := List.mem_map.1 hq
    simp at hc; subst hc; rfl
  obtain ⟨d, d1, d2, _⟩ := (hT tx i hi).und
  rw [hk] at d2
  obtain rfl := kd_str d2
  have h := hC.ev hy
  cases h with
  | imm _ _ h =>
    rw [h.str_inv, h1]
    refine ⟨byteCells t, ?_, ?_⟩
    · have := Src.ofString (P := C.P) W d1 t
      have e : (byteRows t).length = t.size := by simp [byteRows]
      rw [e]; exact this
    · unfold byteRows byteCells
      generalize t.data.toList = q
      induction q with
      | nil => exact .nil
      | cons b q ih => exact .cons (.imm _ _ (.int _ _)) ih
theorem append_exec {x y : Operand} {t tx : TypeId} (ho : o.op = .call ⟨.builtin .append, #[x, y], #[t, tx]⟩) {P : Program} {ρ : Operand → Value} {z : Value} {w w' : World} (h : (Builtin.append_ #[t, tx] o.type #[ρ x, ρ y]).run P w = .ok z w') : (execOp ρ o).run P w = .ok (.value z) w' := by
  rw [call_builtin ho]
  simp only [builtin, List.map_toArray, List.map_cons, List.map_nil]
  exact val_run h
theorem OpOK.append_os (hT : TsOK C.P T) (hd : dok C.nt o.dst = true) {x y : Operand} {t tx e : TypeId} (ho : o.op = .call ⟨.builtin .append, #[x, y], #[t, tx]⟩) {i ie : TI} (hi : look T t = some i) (hk : i.kd = .sl e) (hie : look T e = some ie) {id n : Nat} (hx : s.ev x = some (.os id n))
    {b : Blk} (hb : nth s.hp id = some b) (hver : n = b.rows.length) (hty : b.ty = e) (hsz : b.sz = ie.sz) {rows2 : List (List AV)} (hsrc : SrcA C s ie tx y rows2) (hbound : (b.rows.length + rows2.length) * ie.bytes ≤ 140737488355328) (h63 : b.rows.length + rows2.length ≤ 9223372036854775807) :
    OpOK C s o (St.put ⟨s.env, s.hp.set id ⟨b.ty, b.sz, b.rows ++ rows2⟩⟩ o.dst (.os id (n + rows2.length))) :=
  OpOK.val hd fun γ κ a W hC => by
    rw [nth_eq] at hb
    obtain ⟨d, d1, d2, _⟩ := (hT t i hi).und
    rw [hk] at d2
    obtain rfl := kd_sl d2
    obtain ⟨hr2, hc2, hs⟩ := hsrc
    obtain ⟨news, hs1, hs2⟩ := hs γ κ a W hC
    have hxv := hC.ev hx
    rw [hver] at hxv
    obtain ⟨x', γ', κ', W', h1, h2, h3⟩ := append_core hC hb hxv hty hsz d1 (hT e ie hie) (ty := o.type) hs1 hr2 hc2 hs2 hbound h63
    exact ⟨x', γ', κ', W', append_exec ho h1, h2, by rw [hver]; exact h3⟩
theorem OpOK.append_nil (hT : TsOK C.P T) (hd : dok C.nt o.dst = true) {x y : Operand} {t tx e : TypeId} (ho : o.op = .call ⟨.builtin .append, #[x, y], #[t, tx]⟩) {i ie : TI} (hi : look T t = some i) (hk : i.kd = .sl e) (hie : look T e = some ie) (hpos : 0 < ie.sz) (hx : s.ev x = some .nils)
    {rows2 : List (List AV)} (hsrc : SrcA C s ie tx y rows2) (hbound : rows2.length * ie.bytes ≤ 140737488355328) (h63 : rows2.length ≤ 9223372036854775807) :
    OpOK C s o (St.put ⟨s.env, s.hp ++ [⟨e, ie.sz, rows2⟩]⟩ o.dst (.os (len s.hp) rows2.length)) :=
  OpOK.val hd fun γ κ a W hC => by
    obtain ⟨d, d1, d2, _⟩ := (hT t i hi).und
    rw [hk] at d2
    obtain rfl := kd_sl d2
    obtain ⟨hr2, hc2, hs⟩ := hsrc
    obtain ⟨news, hs1, hs2⟩ := hs γ κ a W hC
    obtain ⟨γ1, κ1, c1, c2, c3, c4⟩ := hC.reserve e ie.sz hpos
    have hxn : a.eval x = .slice none 0 0 := by
      have := hC.ev hx
      generalize a.eval x = xv at this
      cases this; rfl
    have hxv : RepA (St.mm ⟨s.env, s.hp ++ [⟨e, ie.sz, []⟩]⟩ C γ1 κ1 W) (.os s.hp.length 0) (a.eval x) := by
      rw [hxn]
      refine .os _ _ ⟨e, ie.sz, []⟩ _ _ _ ?_ (Nat.le_refl _) fun _ => ⟨?_, rfl, c3.symm⟩
      · show (s.hp ++ _)[s.hp.length]? = _
        simp
      · show none = (γ1 s.hp.length).map _
        rw [c2]; rfl
    have hs2' := hs2.mono fun _ _ h => h.keep c4
    obtain ⟨x', γ', κ', W', h1, h2, h3⟩ := append_core (b := ⟨e, ie.sz, []⟩) c1 (by simp) hxv rfl rfl d1 (hT e ie hie) (ty := o.type) hs1 hr2 hc2 hs2' (by simpa using hbound) (by simpa using h63)
    have e1 : (s.hp ++ [(⟨e, ie.sz, []⟩ : Blk)]).set s.hp.length ⟨e, ie.sz, [] ++ rows2⟩ = s.hp ++ [⟨e, ie.sz, rows2⟩] := by
      rw [List.set_append, if_neg (by omega)]
      simp
    simp only at h2 h3
    rw [e1] at h2 h3
    refine ⟨x', γ', κ', W', append_exec ho h1, h2, ?_⟩
    rw [len_eq]
    simpa using h3
theorem reps_add (l : List AV) : ∀ m n, reps (m + n) l = reps m l ++ reps n l
  | 0, n => by simp [reps]
  | m + 1, n => by
    rw [show m + 1 + n = (m + n) + 1 by omega]
    simp [reps, reps_add l m n]
theorem reps_flat (l : List AV) : ∀ m, (List.replicate m l).flatten = reps m l
  | 0 => rfl
  | m + 1 => by simp [List.replicate_succ, reps, reps_flat l m]
theorem OpOK.make (hT : TsOK C.P T) (hd : dok C.nt o.dst = true) {t e : TypeId} {x y : Operand} (ho : o.op = .makeSlice t x y) {i ie : TI} (hi : look T t = some i) (hk : i.kd = .sl e) (hie : look T e = some ie) {k k2 : IntKind} {n m : Int} (hx : s.ev x = some (.imm (.int k n))) (hy : s.ev y = some (.imm (.int k2 m)))
    (h0 : 0 ≤ n) (h1 : n ≤ m) (hn : m ≤ 9223372036854775807) (hpos : 0 < ie.sz) (hcell : ie.zero.all AV.cell = true) (hby : (ie.bytes : Int) * m ≤ 140737488355328) :
    OpOK C s o (St.put ⟨s.env, s.hp ++ [⟨e, ie.sz, List.replicate n.toNat ie.zero⟩]⟩ o.dst (.os (len s.hp) n.toNat)) :=
  OpOK.val hd fun γ κ a W hC => by
    obtain ⟨d, d1, d2, _⟩ := (hT t i hi).und
    rw [hk] at d2
    obtain rfl := kd_sl d2
    have hTe := hT e ie hie
    obtain ⟨it, z, i1, i2, i3, i4, i5⟩ := hTe.info
    have hz := constAVs_rep (M := s.mm C γ κ W) i5
    have hzl : z.cells.toList.length = ie.sz := by
      have := hz.length
      rw [hTe.zl] at this
      exact this.symm
    have h1x := hC.ev hx
    have h2x := hC.ev hy
    cases h1x with
    | imm _ _ h1x => cases h2x with
      | imm _ _ h2x =>
        have hmade : All2 (RepA (s.mm C γ κ W)) (reps m.toNat ie.zero) (madeCells z.cells (m.toNat * it.size)).toList := by
          have := madeCells_rep hz m.toNat
          rw [hzl] at this
          unfold madeCells
          rw [i2]
          simpa using this
        have hsplit : reps m.toNat ie.zero = reps n.toNat ie.zero ++ reps (m.toNat - n.toNat) ie.zero := by
          rw [← reps_add]; congr 1; omega
        rw [hsplit] at hmade
        have hm2 := hmade.split.1
        have hml : (madeCells z.cells (m.toNat * it.size)).toList.length = m.toNat * ie.sz := by rw [Array.length_toList, size_madeCells, i2]
        obtain ⟨γ', κ', c1, c2, c3, c4⟩ := hC.alloc ⟨e, ie.sz, List.replicate n.toNat ie.zero⟩ ((madeCells z.cells (m.toNat * it.size)).toList.take (reps n.toNat ie.zero).length) ((madeCells z.cells (m.toNat * it.size)).toList.drop (reps n.toNat ie.zero).length) m.toNat hpos (fun r hr => by rw [(List.mem_replicate.1 hr).2]; exact hTe.zl) (fun c hc => by
            obtain ⟨r, hr, hc⟩ := List.mem_flatten.1 hc
            rw [(List.mem_replicate.1 hr).2] at hc
            exact List.all_eq_true.1 hcell c hc) (by simp; omega) (by simp only [maxLen]; omega) (by rw [List.take_append_drop, hml]) (by rw [reps_flat]; exact hm2)
        rw [List.take_append_drop, Array.toArray_toList] at c1 c4
        refine ⟨.slice (some ⟨W.heap.size, 0, none⟩) n.toNat m.toNat, γ', κ', _, ?_, c1, ?_⟩
        · unfold execOp; rw [ho]
          simp only [h1x.int_inv, h2x.int_inv]
          exact val_run (run_make (P := C.P) W t e it z d1 i1 i4 k k2 n m h0 h1 (by rw [i3]; omega) hn)
        · rw [len_eq]
          refine .os _ _ ⟨e, ie.sz, List.replicate n.toNat ie.zero⟩ _ _ _ ?_ (by simp) fun _ => ⟨?_, rfl, c3.symm⟩
          · show (s.hp ++ _)[s.hp.length]? = _
            simp
          · show _ = (γ' s.hp.length).map _
            rw [c2]; rfl
end
end Go.Proofs.YtjjdabihnmilgaaGreat.A
namespace Go.Proofs.YtjjdabihnmilgaaGreat.A
open Go.RowKit
set_option linter.unusedVariables false
set_option linter.unusedSimpArgs false
def M0 (W : World) (X : Nat → Prop) : Mm := ⟨W, X, fun _ => none, fun _ => 0, []⟩
def Callable (P : Program) (f : FuncId) : Prop := ∀ (args : Array Value) (w : World), (callFunc f args).run P w = .ok (.enter f args) w
/-- A function that only computes: called with what reads as args, it hands back what reads as r; what there was is as it was. -/
def PureC (P : Program) (f : FuncId) (args : List AV) (r : AV) : Prop :=
  Callable P f ∧ ∀ (W : World) (X : Nat → Prop) (xs : List Value), (∀ b, X b → b < W.heap.size) → All2 (RepA (M0 W X)) args xs →
    Calls P f xs.toArray W fun e W' => ∃ x, e = .returned x ∧ Below W.heap.size W W' ∧ RepA (M0 W' X) r x
def AV.im1 : AV → Bool
  | .imm _ => true
  | .nils => true
  | .nocap => true
  | .pin _ => true
  | .mpi _ _ => true
  | _ => false
def AV.im2 : AV → Bool
  | .agg l => l.all AV.im1
  | v => v.im1
def AV.im : AV → Bool
  | .tup l => l.all AV.im2
  | v => v.im2
theorem RepA.im1 {M : Mm} {v : AV} {x : Value} (h : RepA M v x) (hv : v.im1 = true) : RepA (M0 M.W M.N) v x := by
  cases h <;> first | (simp [AV.im1] at hv; done) | skip
  · rename_i h; exact .imm _ _ h
  · exact .nils
  · exact .nocap _
  · rename_i h0 hb hy h; exact .pin _ _ _ h0 hb hy h
  · rename_i h; exact .mpi _ _ _ h
theorem im1_all {M : Mm} {l : List AV} {xs : List Value} (h : All2 (RepA M) l xs) (hv : l.all AV.im1 = true) : All2 (RepA (M0 M.W M.N)) l xs := by
  rw [List.all_eq_true] at hv
  exact h.mono_mem fun v x hm _ hr => hr.im1 (hv v hm)
theorem RepA.im2 {M : Mm} {v : AV} {x : Value} (h : RepA M v x) (hv : v.im2 = true) : RepA (M0 M.W M.N) v x := by
  cases h with
  | agg l xs h => exact .agg _ _ (im1_all h hv)
  | imm v x h => exact .imm _ _ h
  | nils => exact .nils
  | nocap A => exact .nocap _
  | pin l ad ys h0 hb hy h => exact .pin _ _ _ h0 hb hy h
  | mpi g ks vs h => exact .mpi _ _ _ h
  | _ => simp [AV.im2, AV.im1] at hv
theorem im2_all {M : Mm} {l : List AV} {xs : List Value} (h : All2 (RepA M) l xs) (hv : l.all AV.im2 = true) : All2 (RepA (M0 M.W M.N)) l xs := by
  rw [List.all_eq_true] at hv
  exact h.mono_mem fun v x hm _ hr => hr.im2 (hv v hm)
theorem RepA.im {M : Mm} {v : AV} {x : Value} (h : RepA M v x) (hv : v.im = true) : RepA (M0 M.W M.N) v x := by
  cases h with
  | tup l xs h => exact .tup _ _ (im2_all h hv)
  | agg l xs h => exact .agg _ _ (im1_all h hv)
  | imm v x h => exact .imm _ _ h
  | nils => exact .nils
  | nocap A => exact .nocap _
  | pin l ad ys h0 hb hy h => exact .pin _ _ _ h0 hb hy h
  | mpi g ks vs h => exact .mpi _ _ _ h
  | _ => simp [AV.im, AV.im2, AV.im1] at hv
theorem im_all {M : Mm} {l : List AV} {xs : List Value} (h : All2 (RepA M) l xs) (hv : l.all AV.im = true) : All2 (RepA (M0 M.W M.N)) l xs := by
  rw [List.all_eq_true] at hv
  exact h.mono_mem fun v x hm _ hr => hr.im (hv v hm)
def cv1 : AV → AV
  | .nils => .imm (.sl [])
  | .nocap => .imm (.sl [])
  | v => v
def cv2 : AV → AV
  | .agg l => .agg (l.map cv1)
  | v => cv1 v
def cv : AV → AV
  | .tup l => .tup (l.map cv2)
  | v => cv2 v
theorem RepA.cv1 {M : Mm} {v : AV} {x : Value} (h : RepA M v x) : RepA M (cv1 v) x := by
  unfold A.cv1
  split
  · cases h; exact .imm _ _ (.nil _ _)
  · cases h; exact .imm _ _ (.nil _ _)
  · exact h
theorem cv1_all {M : Mm} {l : List AV} {xs : List Value} (h : All2 (RepA M) l xs) : All2 (RepA M) (l.map A.cv1) xs := by
  induction h with
  | nil => exact .nil
  | cons h1 _ ih => exact .cons h1.cv1 ih
theorem RepA.cv2 {M : Mm} {v : AV} {x : Value} (h : RepA M v x) : RepA M (cv2 v) x := by
  unfold A.cv2
  split
  · cases h with
    | agg l xs h => exact .agg _ _ (cv1_all h)
  · exact h.cv1
theorem cv2_all {M : Mm} {l : List AV} {xs : List Value} (h : All2 (RepA M) l xs) : All2 (RepA M) (l.map A.cv2) xs := by
  induction h with
  | nil => exact .nil
  | cons h1 _ ih => exact .cons h1.cv2 ih
theorem RepA.cv {M : Mm} {v : AV} {x : Value} (h : RepA M v x) : RepA M (cv v) x := by
  unfold A.cv
  split
  · cases h with
    | tup l xs h => exact .tup _ _ (cv2_all h)
  · exact h.cv2
theorem cv_all {M : Mm} {l : List AV} {xs : List Value} (h : All2 (RepA M) l xs) : All2 (RepA M) (l.map A.cv) xs := by
  induction h with
  | nil => exact .nil
  | cons h1 _ ih => exact .cons h1.cv ih
section
variable {C : Cx} {s : St} {γ : Nat → Option Nat} {κ : Nat → Nat} {a : Act} {W : World} {o : Oper} {T : List (Nat × TI)} {l rest : List Oper} {Q : Exit → St → Prop}
theorem Conc.below_keep (hC : Conc C s γ κ a W) {W' : World} (hb : Below W.heap.size W W') : Keep (s.mm C γ κ W) (s.mm C γ κ W') :=
  ⟨fun x hx ⟨o, ho⟩ => ⟨hb.block x (blk_lt (W := W) ho), hx⟩, fun id b h => ⟨b, h, rfl, Nat.le_refl _, fun _ => ⟨rfl, rfl⟩⟩⟩
theorem Conc.below (hC : Conc C s γ κ a W) {W' : World} (hb : Below W.heap.size W W') : Conc C s γ κ a W' := by
  have hk := hC.below_keep hb
  refine ⟨hC.size, hC.defers, fun t v h => ?_, fun id b h => ?_, hC.inj, hC.own, hC.xlt, fun x hx hl => ?_, hb.os.trans hC.hos, hb.tape.trans hC.htape, hb.output.trans hC.hout, Nat.le_trans hC.hsize hb.size, LentP.keep hC.lent hk⟩
  · obtain ⟨x, h1, h2⟩ := hC.env t v h
    exact ⟨x, h1, h2.keep hk⟩
  · have ho := hC.blk id b h
    refine ⟨ho.pos, ho.rows, ho.cell, ho.cap, ho.capm, ?_⟩
    rcases ho.mem with h1 | ⟨g', ys', sp', h1, h2, h3, h4⟩
    · exact .inl h1
    · exact .inr ⟨g', ys', sp', h1, (hb.block g' (blk_lt (W := W) h2)).trans h2, h3, h4.mono fun _ _ h => h.keep hk⟩
  · rw [hb.block x (Nat.lt_of_lt_of_le hx hC.hsize)]
    exact hC.old x hx hl
theorem Conc.nlt (hC : Conc C s γ κ a W) : ∀ b, nset C.X γ s.hp.length b → b < W.heap.size := by
  rintro b (h | ⟨id, hi, hg⟩)
  · exact Nat.lt_of_lt_of_le (hC.xlt b h) hC.hsize
  · obtain ⟨ys, sp, h2, _⟩ := hC.mem (List.getElem?_eq_getElem hi) hg
    exact blk_lt h2
theorem call_run {P : Program} {f : FuncId} (hf : Callable P f) {fo : Operand} {args : Array Operand} {ats : Array TypeId} (ho : o.op = .call ⟨.value fo, args, ats⟩) {ρ : Operand → Value} {caps : Array Value} (hfo : ρ fo = .func (.func f) #[] caps) (w : World) :
    (execOp ρ o).run P w = .ok (.enter f (args.map ρ ++ caps)) w := by
  unfold execOp; rw [ho]
  simp only [resolve, hfo, Deferred.ofValue]
  show ((pure { target := Target.fn (.func f) caps, args := #[] ++ args.map ρ } : Sem Deferred) >>= fun d => invoke d.target d.args).run P w = _
  rw [run_bind (run_pure _ _)]
  simp only [invoke, Array.empty_append]
  exact hf _ _
theorem OpOK.call {fo : Operand} {args : Array Operand} {ats : Array TypeId} (ho : o.op = .call ⟨.value fo, args, ats⟩) (hd : dok C.nt o.dst = true) {f : Nat} (hfo : s.ev fo = some (.imm (.fn f))) {vs : List AV} (hx : evs s args.toList = some vs) {r : AV} (hc : PureC C.P f vs r) (him : vs.all AV.im = true) : OpOK C s o (s.put o.dst r) := by
  intro γ κ a W hC K Q hK
  obtain ⟨h1, h2⟩ := hc
  have hfv := hC.ev hfo
  have hfo' : a.eval fo = .func (.func f) #[] #[] := by
    cases hfv with
    | imm _ _ h => generalize a.eval fo = z at h; cases h; rfl
  have hargs := im_all (hC.evs hx) him
  have hc := h2 W (nset C.X γ s.hp.length) _ hC.nlt hargs
  unfold Oper.wp
  rw [call_run h1 ho hfo' W]
  have e : args.map a.eval ++ #[] = (args.toList.map a.eval).toArray := by apply Array.toList_inj.1; simp
  rw [e]
  refine hc.mono ?_
  rintro ex W' ⟨x, rfl, hb, hr⟩
  refine hK γ κ _ _ ((hC.below hb).put hd ?_)
  exact hr.keep ⟨fun x hx ⟨o, ho⟩ => ⟨rfl, hx⟩, fun id b h => by cases h⟩
theorem OpOK.callcv {fo : Operand} {args : Array Operand} {ats : Array TypeId} (ho : o.op = .call ⟨.value fo, args, ats⟩) (hd : dok C.nt o.dst = true) {f : Nat} (hfo : s.ev fo = some (.imm (.fn f))) {vs vs' : List AV} (hx : evs s args.toList = some vs) (hcv : vs.map cv = vs') {r : AV} (hc : PureC C.P f vs' r) (him : vs'.all AV.im = true) : OpOK C s o (s.put o.dst r) := by
  intro γ κ a W hC K Q hK
  obtain ⟨h1, h2⟩ := hc
  have hfv := hC.ev hfo
  have hfo' : a.eval fo = .func (.func f) #[] #[] := by
    cases hfv with
    | imm _ _ h => generalize a.eval fo = z at h; cases h; rfl
  have hargs := im_all (by have := cv_all (hC.evs hx); rw [hcv] at this; exact this) him
  have hc := h2 W (nset C.X γ s.hp.length) _ hC.nlt hargs
  unfold Oper.wp
  rw [call_run h1 ho hfo' W]
  have e : args.map a.eval ++ #[] = (args.toList.map a.eval).toArray := by apply Array.toList_inj.1; simp
  rw [e]
  refine hc.mono ?_
  rintro ex W' ⟨x, rfl, hb, hr⟩
  refine hK γ κ _ _ ((hC.below hb).put hd ?_)
  exact hr.keep ⟨fun x hx ⟨o, ho⟩ => ⟨rfl, hx⟩, fun id b h => by cases h⟩
-- the end of a function
def ares (T : List (Nat × TI)) (s : St) : List ResultVar → Option (List AV)
  | [] => some []
  | .tmp t :: r => match get s.env t with
    | none => none
    | some v => match ares T s r with
      | none => none
      | some vs => some (v :: vs)
  | .cell t ty :: r => match get s.env t with
    | none => none
    | some p => match aLoad T s ty p with
      | none => none
      | some v => match ares T s r with
        | none => none
        | some vs => some (v :: vs)
def pack : List AV → AV
  | [v] => v
  | vs => .tup vs
def pack' (xs : List Value) : Value := match xs with
  | [x] => x
  | xs => .tuple xs.toArray
theorem pack_rep {M : Mm} {vs : List AV} {xs : List Value} (h : All2 (RepA M) vs xs) : RepA M (pack vs) (pack' xs) := by
  cases h with
  | nil => exact .tup _ _ .nil
  | cons h1 h2 => cases h2 with
    | nil => exact h1
    | cons h2 h3 => exact .tup _ _ (.cons h1 (.cons h2 h3))
theorem aLoad_run (hT : TsOK C.P T) (hC : Conc C s γ κ a W) {t : TypeId} {q v : AV} {x : Value} (h : aLoad T s t q = some v) (hq : RepA (s.mm C γ κ W) q x) : ∃ y, (Instr.loadAt t x).run C.P W = .ok y W ∧ RepA (s.mm C γ κ W) v y := by
  unfold aLoad at h
  split at h
  · cases h
  · rename_i i hi
    split at h
    · rename_i id ver row off
      split at h
      · cases h
      · rename_i b hb
        split at h
        · cases h
        · rename_i hver
          have hver := Nat.eq_of_beq_eq_true hver
          rw [len_eq] at hver
          split at h
          · cases h
          · rename_i r hr
            rw [nth_eq] at hr hb
            exact ld_own hC (hT t i hi) hb hver hr h hq
    · exact ld_pin (hT t i hi) h hq
    · cases h
theorem results_run (hT : TsOK C.P T) (hC : Conc C s γ κ a W) : ∀ {rs : List ResultVar} {vs : List AV}, ares T s rs = some vs →
    ∃ xs, (rs.mapM (m := Sem) fun | .tmp t => pure (a.tmps.getD t undef) | .cell b t => do loadVar t (← asAddr (a.tmps.getD b undef))).run C.P W = .ok xs W ∧ All2 (RepA (s.mm C γ κ W)) vs xs
  | [], vs, h => by
    simp only [ares, Option.some.injEq] at h
    subst h
    exact ⟨[], rfl, .nil⟩
  | .tmp t :: r, vs, h => by
    simp only [ares] at h
    split at h
    · cases h
    · rename_i v hv
      split at h
      · cases h
      · rename_i vs' hvs
        obtain rfl := Option.some.inj h
        obtain ⟨xs, h1, h2⟩ := results_run hT hC hvs
        have h3 := hC.ev (x := .tmp t) hv
        refine ⟨a.tmps.getD t undef :: xs, ?_, .cons h3 h2⟩
        rw [List.mapM_cons, run_bind (run_pure _ _), run_bind h1]
        rfl
  | .cell t ty :: r, vs, h => by
    simp only [ares] at h
    split at h
    · cases h
    · rename_i p hp
      split at h
      · cases h
      · rename_i v hv
        split at h
        · cases h
        · rename_i vs' hvs
          obtain rfl := Option.some.inj h
          obtain ⟨xs, h1, h2⟩ := results_run hT hC hvs
          have h3 := hC.ev (x := .tmp t) hp
          obtain ⟨y, h4, h5⟩ := aLoad_run hT hC hv h3
          refine ⟨y :: xs, ?_, .cons h5 h2⟩
          have h6 : (do loadVar ty (← asAddr (a.tmps.getD t undef)) : Sem Value).run C.P W = .ok y W := by
            have e : a.eval (.tmp t) = a.tmps.getD t undef := rfl
            rw [e] at h4
            unfold Instr.loadAt Instr.sureAddr at h4
            unfold asAddr
            generalize a.tmps.getD t undef = z at h4
            cases z with
            | pointer q => cases q with
              | none => simp [bind, Sem.bind, stuck, Sem.run] at h4
              | some q => exact h4
            | _ => simp [bind, Sem.bind, stuck, Sem.run] at h4
          rw [List.mapM_cons, run_bind h6, run_bind h1]
          rfl
/-- q, read where the own rows are given up, is r. -/
def Fz (C : Cx) (s : St) (q r : AV) : Prop := ∀ γ κ a W x, Conc C s γ κ a W → RepA (s.mm C γ κ W) q x → RepA (M0 W C.X) r x
theorem M0_sub {W : World} {N X : Nat → Prop} (h : ∀ b, X b → N b) {v : AV} {x : Value} (hr : RepA (M0 W N) v x) : RepA (M0 W X) v x :=
  RepA.keep (show Keep (M0 W N) (M0 W X) from ⟨fun b hb _ => ⟨rfl, fun hx => hb (h b hx)⟩, fun id b hb => by cases hb⟩) hr
theorem Fz.im {q : AV} (h : q.im = true) : Fz C s q q := fun γ κ a W x hC hr => M0_sub (fun b hb => .inl hb) (hr.im h)
theorem Fz.cv {q : AV} (h : q.im = true) : Fz C s q (cv q) := fun γ κ a W x hC hr => (M0_sub (fun b hb => .inl hb) (hr.im h)).cv
theorem Fz.os {id n : Nat} {b : Blk} (hb : nth s.hp id = some b) (hver : n = b.rows.length) {rows : List (List IV)} (hr : b.rows = rows.map (·.map .imm)) : Fz C s (.os id n) (.imm (.sl rows)) := by
  intro γ κ a W x hC hx
  rw [nth_eq] at hb
  have hB := hC.blk id b hb
  have e := hx.os_val hb hver
  subst e
  rcases hB.mem with ⟨h1, h2, h3⟩ | ⟨g, ys, sp, h1, h2, h3, h4⟩
  · have : rows = [] := by
      rw [h2] at hr
      exact List.map_eq_nil_iff.1 hr.symm
    subst this
    have hn0 : n = 0 := by rw [hver, h2]; rfl
    subst hn0
    exact .imm _ _ (.nil _ _)
  · by_cases hne : rows = []
    · subst hne
      have hn0 : n = 0 := by rw [hver, hr]; rfl
      subst hn0
      exact .imm _ _ (.nil _ _)
    · rw [h1]
      have hrl : ∀ r ∈ rows, r.length = b.sz := by
        intro r hr'
        have := hB.rows (r.map .imm) (by rw [hr]; exact List.mem_map.2 ⟨r, hr', rfl⟩)
        simpa using this
      refine .imm _ _ (.sl rows ⟨g, 0, none⟩ n _ b.sz ys hne hB.pos (by rw [hver, hr, List.length_map]) (by rw [hver]; exact hB.cap) ?_ hrl ?_ ?_)
      · have hid : id < s.hp.length := (List.getElem?_eq_some_iff.1 hb).1
        exact (hC.own id g hid h1).1
      · intro j y hj
        have e : (⟨g, 0, none⟩ : Addr).add j = ⟨g, 0 + j, none⟩ := by unfold Addr.add; split <;> simp_all
        have h2' : W.heap[g]? = some (.cells (ys ++ sp).toArray b.ty (0, 0)) := h2
        show W.cell? _ = _
        rw [e, blk_cell h2']
        simp only [List.getElem?_toArray, Nat.zero_add]
        rw [List.getElem?_append_left (List.getElem?_eq_some_iff.1 hj).1]; exact hj
      · rw [hr, ← List.map_flatten] at h4
        have key : ∀ {l : List IV} {ys : List Value}, All2 (RepA (s.mm C γ κ W)) (l.map .imm) ys → All2 (RepI W C.X) l ys := by
          intro l
          induction l with
          | nil => intro ys h; cases h; exact .nil
          | cons v l ih =>
            intro ys h
            cases h with
            | cons h1 h2 => cases h1 with
              | imm _ _ h1 => exact .cons (h1.keep fun b hb _ => ⟨rfl, fun hx => hb (.inl hx)⟩) (ih h2)
        exact key h4
inductive FzL (C : Cx) (s : St) : List AV → List AV → Prop
  | nil : FzL C s [] []
  | cons {q r l m} : Fz C s q r → FzL C s l m → FzL C s (q :: l) (r :: m)
theorem FzL.all {l m : List AV} (h : FzL C s l m) (hC : Conc C s γ κ a W) : ∀ {xs : List Value}, All2 (RepA (s.mm C γ κ W)) l xs → All2 (RepA (M0 W C.X)) m xs := by
  induction h with
  | nil => intro xs h; cases h; exact .nil
  | cons h1 _ ih =>
    intro xs h
    cases h with
    | cons h2 h3 => exact .cons (h1 _ _ _ _ _ hC h2) (ih h3)
theorem Fz.agg {l m : List AV} (h : FzL C s l m) : Fz C s (.agg l) (.agg m) := by
  intro γ κ a W x hC hx
  cases hx with
  | agg l xs hx => exact .agg _ _ (h.all hC hx)
theorem Fz.tup {l m : List AV} (h : FzL C s l m) : Fz C s (.tup l) (.tup m) := by
  intro γ κ a W x hC hx
  cases hx with
  | tup l xs hx => exact .tup _ _ (h.all hC hx)
/-- What a function's body comes to. -/
def RQ (C : Cx) (T : List (Nat × TI)) (rs : List ResultVar) (r : AV) : Exit → St → Prop
  | .ret, s => ∃ qs, ares T s rs = some qs ∧ Fz C s (pack qs) r
  | .normal, s => ∃ qs, ares T s rs = some qs ∧ Fz C s (pack qs) r
  | _, _ => False
theorem RQ.ret {rs : List ResultVar} {r : AV} {qs : List AV} (h1 : ares T s rs = some qs) (h2 : Fz C s (pack qs) r) : RQ C T rs r .ret s := ⟨qs, h1, h2⟩
theorem RQ.norm {rs : List ResultVar} {r : AV} {qs : List AV} (h1 : ares T s rs = some qs) (h2 : Fz C s (pack qs) r) : RQ C T rs r .normal s := ⟨qs, h1, h2⟩
theorem RQ.fin {rs : List ResultVar} {r : AV} {qs : List AV} (h1 : ares T s rs = some qs) (h2 : (pack qs).im = true) (h3 : cv (pack qs) = r) : RQ C T rs r .ret s := ⟨qs, h1, h3 ▸ Fz.cv h2⟩
theorem RQ.fin' {rs : List ResultVar} {r : AV} {qs : List AV} (h1 : ares T s rs = some qs) (h2 : (pack qs).im = true) (h3 : cv (pack qs) = r) : RQ C T rs r .normal s := ⟨qs, h1, h3 ▸ Fz.cv h2⟩
def IV.scal : IV → Bool
  | .sl _ => false
  | _ => true
def AV.scal : AV → Bool
  | .imm v => v.scal
  | .agg l => l.all fun | .imm v => v.scal | _ => false
  | _ => false
theorem RepI.scal {W W' : World} {N N' : Nat → Prop} {v : IV} {x : Value} (h : RepI W N v x) (hs : v.scal = true) : RepI W' N' v x := by
  cases h <;> first | (simp [IV.scal] at hs; done) | exact .int _ _ | exact .bool _ | exact .str _ | exact .nilp | exact .nilf | exact .fn _ | exact .any _ ‹_› ‹_› ‹_›
theorem RepA.scal {M M' : Mm} {v : AV} {x : Value} (h : RepA M v x) (hs : v.scal = true) : RepA M' v x := by
  cases h with
  | imm v x h => exact .imm _ _ (h.scal hs)
  | agg l xs h =>
    refine .agg _ _ ?_
    have hs : ∀ v ∈ l, (match v with | .imm v => v.scal | _ => false) = true := by simpa [AV.scal] using hs
    refine h.mono_mem fun v x hm _ hr => ?_
    have := hs v hm
    cases hr with
    | imm v x h => exact .imm _ _ (h.scal this)
    | _ => cases this
  | _ => simp [AV.scal] at hs
/-- A call that is handed own rows for reading; what comes back has no address in it. -/
theorem OpOK.callsc {fo : Operand} {args : Array Operand} {ats : Array TypeId} (ho : o.op = .call ⟨.value fo, args, ats⟩) (hd : dok C.nt o.dst = true) {f : Nat} (hfo : s.ev fo = some (.imm (.fn f))) {vs vs' : List AV} (hx : evs s args.toList = some vs) (hfz : FzL C s vs vs') {r : AV} (hc : PureC C.P f vs' r) (hs : r.scal = true) : OpOK C s o (s.put o.dst r) := by
  intro γ κ a W hC K Q hK
  obtain ⟨h1, h2⟩ := hc
  have hfv := hC.ev hfo
  have hfo' : a.eval fo = .func (.func f) #[] #[] := by
    cases hfv with
    | imm _ _ h => generalize a.eval fo = z at h; cases h; rfl
  have hargs := hfz.all hC (hC.evs hx)
  have hc := h2 W C.X _ (fun b hb => Nat.lt_of_lt_of_le (hC.xlt b hb) hC.hsize) hargs
  unfold Oper.wp
  rw [call_run h1 ho hfo' W]
  have e : args.map a.eval ++ #[] = (args.toList.map a.eval).toArray := by apply Array.toList_inj.1; simp
  rw [e]
  refine hc.mono ?_
  rintro ex W' ⟨x, rfl, hb, hr⟩
  exact hK γ κ _ _ ((hC.below hb).put hd (hr.scal hs))
def toIV : List AV → Option (List IV)
  | [] => some []
  | .imm v :: l => (match toIV l with
    | some vs => some (v :: vs)
    | none => none)
  | .nils :: l => (match toIV l with
    | some vs => some (.sl [] :: vs)
    | none => none)
  | .nocap :: l => (match toIV l with
    | some vs => some (.sl [] :: vs)
    | none => none)
  | _ => none
def rowsIV : List (List AV) → Option (List (List IV))
  | [] => some []
  | r :: l => (match toIV r with
    | some v => (match rowsIV l with
      | some vs => some (v :: vs)
      | none => none)
    | none => none)
def fzv (hp : List Blk) (v : AV) : Option AV :=
  match v with
  | .os id n => (match nth hp id with
    | some b => (match Nat.beq n (len b.rows) with
      | true => (match rowsIV b.rows with
        | some rows => some (.imm (.sl rows))
        | none => none)
      | false => none)
    | none => none)
  | v => (match v.im with
    | true => some (cv v)
    | false => none)
def fzvs (hp : List Blk) : List AV → Option (List AV)
  | [] => some []
  | v :: l => (match fzv hp v with
    | some r => (match fzvs hp l with
      | some rs => some (r :: rs)
      | none => none)
    | none => none)
theorem toIV_keep {W : World} {M : Mm} {X : Nat → Prop} (hX : ∀ b, X b → M.N b) (hW : W = M.W) : ∀ {l : List AV} {vs : List IV} {ys : List Value}, toIV l = some vs → All2 (RepA M) l ys → All2 (RepI W X) vs ys := by
  subst hW
  intro l
  induction l with
  | nil => intro vs ys h hr; simp only [toIV, Option.some.injEq] at h; subst h; cases hr; exact .nil
  | cons v l ih =>
    intro vs ys h hr
    cases hr with
    | cons h1 h2 =>
      unfold toIV at h
      split at h
      · rename_i e; cases e
      · rename_i u l' e
        cases e
        split at h
        · rename_i us hus
          obtain rfl := Option.some.inj h
          cases h1 with
          | imm _ _ h1 => exact .cons (h1.keep fun b hb _ => ⟨rfl, fun hx => hb (hX b hx)⟩) (ih hus h2)
        · cases h
      · rename_i l' e
        cases e
        split at h
        · rename_i us hus
          obtain rfl := Option.some.inj h
          cases h1
          exact .cons (.nil _ _) (ih hus h2)
        · cases h
      · rename_i l' e
        cases e
        split at h
        · rename_i us hus
          obtain rfl := Option.some.inj h
          cases h1
          exact .cons (.nil _ _) (ih hus h2)
        · cases h
      · cases h
theorem rowsIV_spec : ∀ {rows : List (List AV)} {rs : List (List IV)}, rowsIV rows = some rs → rows.length = rs.length ∧ (∀ sz, (∀ r ∈ rows, r.length = sz) → ∀ r ∈ rs, r.length = sz) ∧ toIV rows.flatten = some rs.flatten := by
  have key : ∀ {l : List AV} {vs : List IV}, toIV l = some vs → l.length = vs.length ∧ ∀ {m : List AV} {us : List IV}, toIV m = some us → toIV (l ++ m) = some (vs ++ us) := by
    intro l
    induction l with
    | nil => intro vs h; simp only [toIV, Option.some.injEq] at h; subst h; exact ⟨rfl, fun h => h⟩
    | cons v l ih =>
      intro vs h
      unfold toIV at h
      split at h
      · rename_i e; cases e
      all_goals first
        | (cases h; done)
        | (rename_i e
           cases e
           split at h
           · rename_i us hus
             obtain rfl := Option.some.inj h
             obtain ⟨h1, h2⟩ := ih hus
             refine ⟨by simp [h1], fun hm => ?_⟩
             simp only [List.cons_append, toIV, h2 hm]
           · cases h)
  intro rows
  induction rows with
  | nil => intro rs h; simp only [rowsIV, Option.some.injEq] at h; subst h; exact ⟨rfl, fun sz _ r hr => by simp at hr, rfl⟩
  | cons r l ih =>
    intro rs h
    unfold rowsIV at h
    split at h
    · rename_i v hv
      split at h
      · rename_i vs hvs
        obtain rfl := Option.some.inj h
        obtain ⟨h1, h2, h3⟩ := ih hvs
        obtain ⟨h4, h5⟩ := key hv
        refine ⟨by simp [h1], fun sz hsz q hq => ?_, ?_⟩
        · rcases List.mem_cons.1 hq with e | e
          · subst e; rw [← h4]; exact hsz r (by simp)
          · exact h2 sz (fun r hr => hsz r (by simp [hr])) q e
        · simp only [List.flatten_cons]
          exact h5 h3
      · cases h
    · cases h
theorem Fz.fzv {q r : AV} (h : fzv s.hp q = some r) : Fz C s q r := by
  unfold A.fzv at h
  split at h
  · rename_i id n
    split at h
    · rename_i b hb
      split at h
      · rename_i hver
        have hver := Nat.eq_of_beq_eq_true hver
        rw [len_eq] at hver
        split at h
        · rename_i rows hrows
          obtain rfl := Option.some.inj h
          obtain ⟨e1, e2, e3⟩ := rowsIV_spec hrows
          intro γ κ a W x hC hx
          rw [nth_eq] at hb
          have hB := hC.blk id b hb
          have e := hx.os_val hb hver
          subst e
          rcases hB.mem with ⟨h1, h2, h3⟩ | ⟨g, ys, sp, h1, h2, h3, h4⟩
          · have e0 : rows = [] := by rw [h2] at e1; exact List.length_eq_zero_iff.1 (by simpa using e1.symm)
            subst e0
            have hn0 : n = 0 := by rw [hver, h2]; rfl
            subst hn0
            exact .imm _ _ (.nil _ _)
          · by_cases hne : rows = []
            · subst hne
              have hn0 : n = 0 := by rw [hver]; simpa using e1
              subst hn0
              exact .imm _ _ (.nil _ _)
            · rw [h1]
              have hrl := e2 b.sz hB.rows
              refine .imm _ _ (.sl rows ⟨g, 0, none⟩ n _ b.sz ys hne hB.pos (by rw [hver]; exact e1) (by rw [hver]; exact hB.cap) ?_ hrl ?_ ?_)
              · have hid : id < s.hp.length := (List.getElem?_eq_some_iff.1 hb).1
                exact (hC.own id g hid h1).1
              · intro j y hj
                have e : (⟨g, 0, none⟩ : Addr).add j = ⟨g, 0 + j, none⟩ := by unfold Addr.add; split <;> simp_all
                have h2' : W.heap[g]? = some (.cells (ys ++ sp).toArray b.ty (0, 0)) := h2
                show W.cell? _ = _
                rw [e, blk_cell h2']
                simp only [List.getElem?_toArray, Nat.zero_add]
                rw [List.getElem?_append_left (List.getElem?_eq_some_iff.1 hj).1]; exact hj
              · exact toIV_keep (M := s.mm C γ κ W) (X := C.X) (fun b hb => .inl hb) rfl e3 h4
        · cases h
      · cases h
    · cases h
  · split at h
    · rename_i him
      obtain rfl := Option.some.inj h
      exact Fz.cv him
    · cases h
theorem FzL.of : ∀ {l m : List AV}, fzvs s.hp l = some m → FzL C s l m
  | [], m, h => by simp only [fzvs, Option.some.injEq] at h; subst h; exact .nil
  | v :: l, m, h => by
    simp only [fzvs] at h
    split at h
    · rename_i r hr
      split at h
      · rename_i rs hrs
        obtain rfl := Option.some.inj h
        exact .cons (Fz.fzv hr) (FzL.of hrs)
      · cases h
    · cases h
theorem OpOK.callfz {fo : Operand} {args : Array Operand} {ats : Array TypeId} (ho : o.op = .call ⟨.value fo, args, ats⟩) (hd : dok C.nt o.dst = true) {f : Nat} (hfo : s.ev fo = some (.imm (.fn f))) {vs vs' : List AV} (hx : evs s args.toList = some vs) {r : AV} (hc : PureC C.P f vs' r) (hs : r.scal = true) (hfz : fzvs s.hp vs = some vs') : OpOK C s o (s.put o.dst r) :=
  OpOK.callsc ho hd hfo hx (FzL.of hfz) hc hs
def params : Nat → List AV → List (Nat × AV)
  | _, [] => []
  | i, v :: r => (i, v) :: params (i + 1) r
theorem params_get : ∀ (l : List AV) (i t : Nat) (v : AV), get (params i l) t = some v → i ≤ t ∧ l[t - i]? = some v
  | [], i, t, v, h => by cases h
  | u :: l, i, t, v, h => by
    simp only [params, get] at h
    split at h
    · rename_i e
      have e := Nat.eq_of_beq_eq_true e
      subst e
      obtain rfl := Option.some.inj h
      exact ⟨Nat.le_refl _, by simp⟩
    · obtain ⟨h1, h2⟩ := params_get l (i + 1) t v h
      refine ⟨by omega, ?_⟩
      rw [show t - i = (t - (i + 1)) + 1 by omega, List.getElem?_cons_succ]
      exact h2
theorem PureC.of_AW {P : Program} {f : FuncId} {fn : Func} {c : Code} {args : List AV} {r : AV} (T : List (Nat × TI)) (hT : TsOK P T) (hf : P.funcs[f]? = some fn) (hb : fn.body = some c) (hn : (fn.name == "runtime.NumGoroutine") = false) (hlen : args.length ≤ fn.ntmps)
    (h : ∀ w0 X, AW ⟨P, X, [], fun _ => none, fun _ => 0, fun _ => False, w0, fn.ntmps⟩ c (RQ ⟨P, X, [], fun _ => none, fun _ => 0, fun _ => False, w0, fn.ntmps⟩ T fn.results.toList r) ⟨params 0 args, []⟩) : PureC P f args r := by
  refine ⟨fun asx w => ?_, fun W X xs hX hargs => ?_⟩
  · unfold callFunc
    have hp : (program).run P w = .ok P w := rfl
    rw [run_bind hp, hf]
    simp only [hn, hb]
    rfl
  · refine calls_of_wp hf hb ?_
    have hl := hargs.length
    have hC : Conc ⟨P, X, [], fun _ => none, fun _ => 0, fun _ => False, W, fn.ntmps⟩ ⟨params 0 args, []⟩ (fun _ => none) (fun _ => 0) { tmps := xs.toArray ++ Array.replicate (fn.ntmps - xs.toArray.size) undef, defers := [] } W := by
      refine ⟨?_, rfl, ?_, by intro id b h; simp at h, by intro i j g hi; simp at hi, by intro i g hi; simp at hi, hX, fun _ _ _ => rfl, rfl, rfl, rfl, Nat.le_refl _, by intro i g h; simp at h⟩
      · simp; omega
      · intro t v hv
        obtain ⟨_, h2⟩ := params_get args 0 t v hv
        simp only [Nat.sub_zero] at h2
        obtain ⟨x, h3, h4⟩ := hargs.get h2
        refine ⟨x, ?_, RepA.keep (show Keep (M0 W X) (St.mm ⟨params 0 args, []⟩ ⟨P, X, [], fun _ => none, fun _ => 0, fun _ => False, W, fn.ntmps⟩ (fun _ => none) (fun _ => 0) W) from ⟨fun b hb _ => ⟨rfl, ?_⟩, fun id b hb => by cases hb⟩) h4⟩
        · simp only
          rw [Array.getElem?_append_left (by simpa using (List.getElem?_eq_some_iff.1 h3).1)]
          simpa using h3
        · rintro (h | ⟨i, hi, _⟩)
          · exact hb h
          · exact absurd hi (Nat.not_lt_zero _)
    refine wp_mono (h W X _ _ _ _ hC) ?_
    rintro e a' W' ⟨s', γ', κ', hC', hQ⟩
    have fin : ∀ qs, ares T s' fn.results.toList = some qs → Fz ⟨P, X, [], fun _ => none, fun _ => 0, fun _ => False, W, fn.ntmps⟩ s' (pack qs) r → a'.defers = [] ∧ ∃ v, (results fn a'.tmps).run P W' = .ok v W' ∧ ∃ x, Ending.returned v = .returned x ∧ Below W.heap.size W W' ∧ RepA (M0 W' X) r x := by
      intro qs h1 h2
      obtain ⟨ys, h3, h4⟩ := results_run hT hC' h1
      refine ⟨hC'.defers, pack' ys, ?_, _, rfl, ⟨hC'.hos, hC'.htape, hC'.hout, hC'.hsize, fun k hk => hC'.old k hk (fun h => h)⟩, h2 _ _ _ _ _ hC' ?_⟩
      · unfold results
        rw [Array.mapM_eq_mapM_toList]
        have h3' := run_bind (P := P) (f := fun vs : List Value => (pure vs.toArray : Sem (Array Value))) h3
        have h5 : ((List.toArray <$> fn.results.toList.mapM (m := Sem) fun | .tmp t => pure (a'.tmps.getD t undef) | .cell b t => do loadVar t (← asAddr (a'.tmps.getD b undef))) : Sem (Array Value)).run P W' = .ok ys.toArray W' := by
          rw [map_eq_pure_bind]
          exact h3'
        refine (run_bind h5).trans ?_
        rcases ys with _ | ⟨y, _ | ⟨y2, ys⟩⟩
        · rfl
        · rfl
        · rw [dif_neg (by simp)]
          rfl
      · exact pack_rep h4
    cases e with
    | ret => obtain ⟨qs, h1, h2⟩ := hQ; exact fin qs h1 h2
    | normal => obtain ⟨qs, h1, h2⟩ := hQ; exact fin qs h1 h2
    | _ => exact hQ.elim
end
end Go.Proofs.YtjjdabihnmilgaaGreat.A
