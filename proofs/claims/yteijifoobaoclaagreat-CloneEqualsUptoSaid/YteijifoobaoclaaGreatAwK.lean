/- The abstract walk, part K: append and make at the operation; contracts of functions that only compute; calls of them; a function's beginning and end; weaker states. -/
import Derived.Test.YteijifoobaoclaaGreatAwJ
namespace Go.Proofs.YteijifoobaoclaaGreat.A
open Go.RowKit
set_option linter.unusedVariables false
set_option linter.unusedSimpArgs false
section
variable {C : Cx} {s : St} {γ : Nat → Option Nat} {κ : Nat → Nat} {a : Act} {W : World} {o : Oper} {T : List (Nat × TI)}
/-- An own row that has no place yet. -/
theorem Conc.reserve (hC : Conc C s γ κ a W) (ty sz : Nat) (hpos : 0 < sz) : ∃ γ' κ', Conc C ⟨s.env, s.hp ++ [⟨ty, sz, []⟩]⟩ γ' κ' a W ∧ γ' s.hp.length = none ∧ κ' s.hp.length = 0 ∧ Keep (s.mm C γ κ W) (St.mm ⟨s.env, s.hp ++ [⟨ty, sz, []⟩]⟩ C γ' κ' W) := by
  let γ' : Nat → Option Nat := fun i => if i = s.hp.length then none else γ i
  let κ' : Nat → Nat := fun i => if i = s.hp.length then 0 else κ i
  have hγ : ∀ i, i ≠ s.hp.length → γ' i = γ i := fun i hi => by simp [γ', hi]
  have hκ : ∀ i, i ≠ s.hp.length → κ' i = κ i := fun i hi => by simp [κ', hi]
  have hγn : γ' s.hp.length = none := by simp [γ']
  have hκn : κ' s.hp.length = 0 := by simp [κ']
  have hKeep : Keep (s.mm C γ κ W) (St.mm ⟨s.env, s.hp ++ [⟨ty, sz, []⟩]⟩ C γ' κ' W) := by
    refine ⟨fun x hx ⟨o, ho⟩ => ⟨rfl, ?_⟩, fun id bb hbb => ⟨bb, ?_, rfl, Nat.le_refl _, fun _ => ?_⟩⟩
    · rintro (h | ⟨i, hi, hg⟩)
      · exact hx (.inl h)
      · have hi' : i < s.hp.length + 1 := by simpa using hi
        by_cases e : i = s.hp.length
        · subst e; rw [hγn] at hg; cases hg
        · rw [hγ i e] at hg
          exact hx (.inr ⟨i, by omega, hg⟩)
    · show (s.hp ++ _)[id]? = some bb
      have hbb' : s.hp[id]? = some bb := hbb
      rw [List.getElem?_append_left (List.getElem?_eq_some_iff.1 hbb').1]; exact hbb'
    · have hi : id < s.hp.length := (List.getElem?_eq_some_iff.1 hbb).1
      exact ⟨hγ id (by omega), hκ id (by omega)⟩
  refine ⟨γ', κ', ⟨hC.size, hC.defers, ?_, ?_, ?_, ?_, hC.xlt, hC.old, hC.hos, hC.htape, hC.hout, hC.hsize, ?_⟩, hγn, hκn, hKeep⟩
  · intro t v h
    obtain ⟨x, h1, h2⟩ := hC.env t v h
    exact ⟨x, h1, h2.keep hKeep⟩
  · intro id bb hbb
    have hbb' : (s.hp ++ [⟨ty, sz, []⟩])[id]? = some bb := hbb
    rcases Nat.lt_or_ge id s.hp.length with hi | hi
    · rw [List.getElem?_append_left hi] at hbb'
      have ho := hC.blk id bb hbb'
      refine ⟨ho.pos, ho.rows, ho.cell, ?_, ?_, ?_⟩
      · show _ ≤ κ' id
        rw [hκ id (by omega)]; exact ho.cap
      · show κ' id ≤ _
        rw [hκ id (by omega)]; exact ho.capm
      rcases ho.mem with ⟨h1, h2, h3⟩ | ⟨g', ys', sp', h1, h2, h3, h4⟩
      · exact .inl ⟨by show γ' id = none; rw [hγ id (by omega)]; exact h1, h2, by show κ' id = 0; rw [hκ id (by omega)]; exact h3⟩
      · exact .inr ⟨g', ys', sp', by show γ' id = _; rw [hγ id (by omega)]; exact h1, h2, by show _ = κ' id * _; rw [hκ id (by omega)]; exact h3, h4.mono fun _ _ h => h.keep hKeep⟩
    · rw [List.getElem?_append_right hi] at hbb'
      have : id = s.hp.length := by
        rcases Nat.eq_or_lt_of_le hi with e | e
        · exact e.symm
        · rw [List.getElem?_eq_none (by simp; omega)] at hbb'; cases hbb'
      subst this
      simp at hbb'
      subst hbb'
      exact ⟨hpos, by simp, by simp, by simp, by show κ' _ ≤ _; rw [hκn]; exact Nat.zero_le _, .inl ⟨hγn, rfl, hκn⟩⟩
  · intro i j g hi hj h1 h2
    have hi' : i < s.hp.length + 1 := by simpa using hi
    have hj' : j < s.hp.length + 1 := by simpa using hj
    by_cases e1 : i = s.hp.length
    · rw [e1, hγn] at h1; cases h1
    · by_cases e2 : j = s.hp.length
      · rw [e2, hγn] at h2; cases h2
      · rw [hγ i e1] at h1; rw [hγ j e2] at h2
        exact hC.inj i j g (by omega) (by omega) h1 h2
  · intro i g hi hg
    have hi' : i < s.hp.length + 1 := by simpa using hi
    by_cases e1 : i = s.hp.length
    · rw [e1, hγn] at hg; cases hg
    · rw [hγ i e1] at hg
      exact hC.own i g (by omega) hg
  · exact hC.lent.keep hKeep
/-- What is appended. -/
def SrcA (C : Cx) (s : St) (ie : TI) (tx : TypeId) (y : Operand) (rows2 : List (List AV)) : Prop :=
  (∀ r ∈ rows2, r.length = ie.sz) ∧ (∀ c ∈ rows2.flatten, c.cell = true) ∧
  ∀ γ κ a W, Conc C s γ κ a W → ∃ news, Src C.P ie.sz tx (a.eval y) rows2.length news W ∧ All2 (RepA (s.mm C γ κ W)) rows2.flatten news
theorem SrcA.nil (hT : TsOK C.P T) {ie : TI} {tx : TypeId} {y : Operand} {i : TI} (hi : look T tx = some i) {e : TypeId} (hk : i.kd = .sl e) (hy : s.ev y = some .nils) : SrcA C s ie tx y [] := by
  refine ⟨by simp, by simp, fun γ κ a W hC => ⟨[], ?_, .nil⟩⟩
  obtain ⟨d, d1, d2, _⟩ := (hT tx i hi).und
  rw [hk] at d2
  obtain rfl := kd_sl d2
  have h := hC.ev hy
  generalize a.eval y = yv at h
  cases h
  exact Src.ofNil W d1 0
theorem SrcA.imm (hT : TsOK C.P T) {ie : TI} {tx : TypeId} {y : Operand} {i : TI} (hi : look T tx = some i) {e : TypeId} (hk : i.kd = .sl e) {rows : List (List IV)} (hy : s.ev y = some (.imm (.sl rows))) (hl : ∀ r ∈ rows, r.length = ie.sz) : SrcA C s ie tx y (rows.map (·.map .imm)) := by
  refine ⟨fun r hr => by obtain ⟨q, hq, rfl⟩ := List.mem_map.1 hr; simpa using hl q hq, fun c hc => ?_, fun γ κ a W hC => ?_⟩
  · obtain ⟨q, hq, hc⟩ := List.mem_flatten.1 hc
    obtain ⟨p, hp, rfl⟩ := List.mem_map.1 hq
    obtain ⟨v, _, rfl⟩ := List.mem_map.1 hc
    rfl
  obtain ⟨d, d1, d2, _⟩ := (hT tx i hi).und
  rw [hk] at d2
  obtain rfl := kd_sl d2
  have h := hC.ev hy
  generalize a.eval y = yv at h
  cases h with
  | imm _ _ h =>
    cases h with
    | nil A c =>
      refine ⟨[], ?_, .nil⟩
      cases A with
      | none => exact Src.ofNil W d1 c
      | some ad => exact Src.ofSlice W d1 ad 0 c [] (by simp) (by simp) (by simp)
    | sl _ ad n c sz ys g0 hsz hn hc hb hrl hyc hrep =>
      have esz : sz = ie.sz := by
        cases rows with
        | nil => exact absurd rfl g0
        | cons r l => rw [← hrl r (by simp)]; exact hl r (by simp)
      subst esz
      refine ⟨ys, ?_, ?_⟩
      · rw [List.length_map, ← hn]
        refine Src.ofSlice W d1 ad n c ys (by rw [← hrep.length, flat_len hrl, hn]) hyc (fun u hu => ?_)
        obtain ⟨j, hj⟩ := List.mem_iff_getElem?.1 hu
        obtain ⟨v, _, hv⟩ := hrep.get' hj
        exact hv.one
      · rw [← List.map_flatten]
        exact imm_all hrep
theorem SrcA.own (hT : TsOK C.P T) {ie : TI} {tx : TypeId} {y : Operand} {i : TI} (hi : look T tx = some i) {e : TypeId} (hk : i.kd = .sl e) {id n : Nat} (hy : s.ev y = some (.os id n)) {b : Blk} (hb : nth s.hp id = some b) (hver : n = b.rows.length) (hsz : b.sz = ie.sz)
    (hr : ∀ r ∈ b.rows, r.length = ie.sz) (hc : ∀ c ∈ b.rows.flatten, c.cell = true) : SrcA C s ie tx y b.rows := by
  refine ⟨hr, hc, fun γ κ a W hC => ?_⟩
  rw [nth_eq] at hb
  obtain ⟨d, d1, d2, _⟩ := (hT tx i hi).und
  rw [hk] at d2
  obtain rfl := kd_sl d2
  have hB := hC.blk id b hb
  rw [(hC.ev hy).os_val hb hver]
  rcases hB.mem with ⟨h1, h2, h3⟩ | ⟨g, ys, sp, h1, h2, h3, h4⟩
  · refine ⟨[], ?_, by rw [h2]; exact .nil⟩
    have e1 : n = 0 := by rw [hver, h2]; rfl
    rw [h1, h2, e1]
    exact Src.ofNil W d1 _
  · refine ⟨ys, ?_, h4⟩
    rw [h1, hver]
    refine Src.ofSlice W d1 ⟨g, 0, none⟩ b.rows.length _ ys (by rw [← h4.length, flat_len hr]) (fun j u hj => ?_) (one_all h4 hc)
    have e : (⟨g, 0, none⟩ : Addr).add j = ⟨g, 0 + j, none⟩ := by unfold Addr.add; split <;> simp_all
    rw [e, blk_cell (W := W) h2]
    simp only [List.getElem?_toArray, Nat.zero_add]
    rw [List.getElem?_append_left (List.getElem?_eq_some_iff.1 hj).1]; exact hj
def byteRows (t : ByteArray) : List (List AV) := t.data.toList.map fun b => [.imm (.int .u8 b.toNat)]
theorem SrcA.str (hT : TsOK C.P T) {ie : TI} {tx : TypeId} {y : Operand} {i : TI} (hi : look T tx = some i) (hk : i.kd = .str) {t : ByteArray} (hy : s.ev y = some (.imm (.str t))) (h1 : ie.sz = 1) : SrcA C s ie tx y (byteRows t) := by
  refine ⟨fun r hr => by obtain ⟨q, hq, rfl⟩ := List.mem_map.1 hr; simp [h1], fun c hc => ?_, fun γ κ a W hC => ?_⟩
  · obtain ⟨q, hq, hc⟩ := List.mem_flatten.1 hc
    obtain ⟨p, hp, rfl⟩ := List.mem_map.1 hq
    simp at hc; subst hc; rfl
  obtain ⟨d, d1, d2, _⟩ := (hT tx i hi).und
  rw [hk] at d2
  obtain rfl := kd_str d2
  have h := hC.ev hy
  cases h with
  | imm _ _ h =>
    rw [h.str_inv, h1]
    refine ⟨byteCells t, ?_, ?_⟩
    · have := Src.ofString (P := C.P) W d1 t
      have e : (byteRows t).length = t.size := by simp [byteRows]
      rw [e]; exact this
    · unfold byteRows byteCells
      generalize t.data.toList = q
      induction q with
      | nil => exact .nil
      | cons b q ih => exact .cons (.imm _ _ (.int _ _)) ih
theorem append_exec {x y : Operand} {t tx : TypeId} (ho : o.op = .call ⟨.builtin .append, #[x, y], #[t, tx]⟩) {P : Program} {ρ : Operand → Value} {z : Value} {w w' : World} (h : (Builtin.append_ #[t, tx] o.type #[ρ x, ρ y]).run P w = .ok z w') : (execOp ρ o).run P w = .ok (.value z) w' := by
  rw [call_builtin ho]
  simp only [builtin, List.map_toArray, List.map_cons, List.map_nil]
  exact val_run h
theorem OpOK.append_os (hT : TsOK C.P T) (hd : dok C.nt o.dst = true) {x y : Operand} {t tx e : TypeId} (ho : o.op = .call ⟨.builtin .append, #[x, y], #[t, tx]⟩) {i ie : TI} (hi : look T t = some i) (hk : i.kd = .sl e) (hie : look T e = some ie) {id n : Nat} (hx : s.ev x = some (.os id n))
    {b : Blk} (hb : nth s.hp id = some b) (hver : n = b.rows.length) (hty : b.ty = e) (hsz : b.sz = ie.sz) {rows2 : List (List AV)} (hsrc : SrcA C s ie tx y rows2) (hbound : (b.rows.length + rows2.length) * ie.bytes ≤ 140737488355328) (h63 : b.rows.length + rows2.length ≤ 9223372036854775807) :
    OpOK C s o (St.put ⟨s.env, s.hp.set id ⟨b.ty, b.sz, b.rows ++ rows2⟩⟩ o.dst (.os id (n + rows2.length))) :=
  OpOK.val hd fun γ κ a W hC => by
    rw [nth_eq] at hb
    obtain ⟨d, d1, d2, _⟩ := (hT t i hi).und
    rw [hk] at d2
    obtain rfl := kd_sl d2
    obtain ⟨hr2, hc2, hs⟩ := hsrc
    obtain ⟨news, hs1, hs2⟩ := hs γ κ a W hC
    have hxv := hC.ev hx
    rw [hver] at hxv
    obtain ⟨x', γ', κ', W', h1, h2, h3⟩ := append_core hC hb hxv hty hsz d1 (hT e ie hie) (ty := o.type) hs1 hr2 hc2 hs2 hbound h63
    exact ⟨x', γ', κ', W', append_exec ho h1, h2, by rw [hver]; exact h3⟩
theorem OpOK.append_nil (hT : TsOK C.P T) (hd : dok C.nt o.dst = true) {x y : Operand} {t tx e : TypeId} (ho : o.op = .call ⟨.builtin .append, #[x, y], #[t, tx]⟩) {i ie : TI} (hi : look T t = some i) (hk : i.kd = .sl e) (hie : look T e = some ie) (hpos : 0 < ie.sz) (hx : s.ev x = some .nils)
    {rows2 : List (List AV)} (hsrc : SrcA C s ie tx y rows2) (hbound : rows2.length * ie.bytes ≤ 140737488355328) (h63 : rows2.length ≤ 9223372036854775807) :
    OpOK C s o (St.put ⟨s.env, s.hp ++ [⟨e, ie.sz, rows2⟩]⟩ o.dst (.os (len s.hp) rows2.length)) :=
  OpOK.val hd fun γ κ a W hC => by
    obtain ⟨d, d1, d2, _⟩ := (hT t i hi).und
    rw [hk] at d2
    obtain rfl := kd_sl d2
    obtain ⟨hr2, hc2, hs⟩ := hsrc
    obtain ⟨news, hs1, hs2⟩ := hs γ κ a W hC
    obtain ⟨γ1, κ1, c1, c2, c3, c4⟩ := hC.reserve e ie.sz hpos
    have hxn : a.eval x = .slice none 0 0 := by
      have := hC.ev hx
      generalize a.eval x = xv at this
      cases this; rfl
    have hxv : RepA (St.mm ⟨s.env, s.hp ++ [⟨e, ie.sz, []⟩]⟩ C γ1 κ1 W) (.os s.hp.length 0) (a.eval x) := by
      rw [hxn]
      refine .os _ _ ⟨e, ie.sz, []⟩ _ _ _ ?_ (Nat.le_refl _) fun _ => ⟨?_, rfl, c3.symm⟩
      · show (s.hp ++ _)[s.hp.length]? = _
        simp
      · show none = (γ1 s.hp.length).map _
        rw [c2]; rfl
    have hs2' := hs2.mono fun _ _ h => h.keep c4
    obtain ⟨x', γ', κ', W', h1, h2, h3⟩ := append_core (b := ⟨e, ie.sz, []⟩) c1 (by simp) hxv rfl rfl d1 (hT e ie hie) (ty := o.type) hs1 hr2 hc2 hs2' (by simpa using hbound) (by simpa using h63)
    have e1 : (s.hp ++ [(⟨e, ie.sz, []⟩ : Blk)]).set s.hp.length ⟨e, ie.sz, [] ++ rows2⟩ = s.hp ++ [⟨e, ie.sz, rows2⟩] := by
      rw [List.set_append, if_neg (by omega)]
      simp
    simp only at h2 h3
    rw [e1] at h2 h3
    refine ⟨x', γ', κ', W', append_exec ho h1, h2, ?_⟩
    rw [len_eq]
    simpa using h3
theorem reps_len (l : List AV) : ∀ n, (reps n l).length = n * l.length
  | 0 => by simp [reps]
  | n + 1 => by simp [reps, reps_len l n, Nat.succ_mul]; omega
theorem reps_add (l : List AV) : ∀ m n, reps (m + n) l = reps m l ++ reps n l
  | 0, n => by simp [reps]
  | m + 1, n => by
    rw [show m + 1 + n = (m + n) + 1 by omega]
    simp [reps, reps_add l m n]
theorem reps_flat (l : List AV) : ∀ m, (List.replicate m l).flatten = reps m l
  | 0 => rfl
  | m + 1 => by simp [List.replicate_succ, reps, reps_flat l m]
theorem OpOK.make (hT : TsOK C.P T) (hd : dok C.nt o.dst = true) {t e : TypeId} {x y : Operand} (ho : o.op = .makeSlice t x y) {i ie : TI} (hi : look T t = some i) (hk : i.kd = .sl e) (hie : look T e = some ie) {k k2 : IntKind} {n m : Int} (hx : s.ev x = some (.imm (.int k n))) (hy : s.ev y = some (.imm (.int k2 m)))
    (h0 : 0 ≤ n) (h1 : n ≤ m) (hn : m ≤ 9223372036854775807) (hpos : 0 < ie.sz) (hcell : ie.zero.all AV.cell = true) (hby : (ie.bytes : Int) * m ≤ 140737488355328) :
    OpOK C s o (St.put ⟨s.env, s.hp ++ [⟨e, ie.sz, List.replicate n.toNat ie.zero⟩]⟩ o.dst (.os (len s.hp) n.toNat)) :=
  OpOK.val hd fun γ κ a W hC => by
    obtain ⟨d, d1, d2, _⟩ := (hT t i hi).und
    rw [hk] at d2
    obtain rfl := kd_sl d2
    have hTe := hT e ie hie
    obtain ⟨it, z, i1, i2, i3, i4, i5⟩ := hTe.info
    have hz := constAVs_rep (M := s.mm C γ κ W) i5
    have hzl : z.cells.toList.length = ie.sz := by
      have := hz.length
      rw [hTe.zl] at this
      exact this.symm
    have h1x := hC.ev hx
    have h2x := hC.ev hy
    cases h1x with
    | imm _ _ h1x => cases h2x with
      | imm _ _ h2x =>
        have hmade : All2 (RepA (s.mm C γ κ W)) (reps m.toNat ie.zero) (madeCells z.cells (m.toNat * it.size)).toList := by
          have := madeCells_rep hz m.toNat
          rw [hzl] at this
          unfold madeCells
          rw [i2]
          simpa using this
        have hsplit : reps m.toNat ie.zero = reps n.toNat ie.zero ++ reps (m.toNat - n.toNat) ie.zero := by
          rw [← reps_add]; congr 1; omega
        rw [hsplit] at hmade
        have hm2 := hmade.split.1
        have hml : (madeCells z.cells (m.toNat * it.size)).toList.length = m.toNat * ie.sz := by rw [Array.length_toList, size_madeCells, i2]
        obtain ⟨γ', κ', c1, c2, c3, c4⟩ := hC.alloc ⟨e, ie.sz, List.replicate n.toNat ie.zero⟩ ((madeCells z.cells (m.toNat * it.size)).toList.take (reps n.toNat ie.zero).length) ((madeCells z.cells (m.toNat * it.size)).toList.drop (reps n.toNat ie.zero).length) m.toNat hpos (fun r hr => by rw [(List.mem_replicate.1 hr).2]; exact hTe.zl) (fun c hc => by
            obtain ⟨r, hr, hc⟩ := List.mem_flatten.1 hc
            rw [(List.mem_replicate.1 hr).2] at hc
            exact List.all_eq_true.1 hcell c hc) (by simp; omega) (by simp only [maxLen]; omega) (by rw [List.take_append_drop, hml]) (by rw [reps_flat]; exact hm2)
        rw [List.take_append_drop, Array.toArray_toList] at c1 c4
        refine ⟨.slice (some ⟨W.heap.size, 0, none⟩) n.toNat m.toNat, γ', κ', _, ?_, c1, ?_⟩
        · unfold execOp; rw [ho]
          simp only [h1x.int_inv, h2x.int_inv]
          exact val_run (run_make (P := C.P) W t e it z d1 i1 i4 k k2 n m h0 h1 (by rw [i3]; omega) hn)
        · rw [len_eq]
          refine .os _ _ ⟨e, ie.sz, List.replicate n.toNat ie.zero⟩ _ _ _ ?_ (by simp) fun _ => ⟨?_, rfl, c3.symm⟩
          · show (s.hp ++ _)[s.hp.length]? = _
            simp
          · show _ = (γ' s.hp.length).map _
            rw [c2]; rfl
end
end Go.Proofs.YteijifoobaoclaaGreat.A
