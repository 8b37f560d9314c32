/- The abstract walk, part Ze: an own block whose rows are others behind a step that was shown on the machine itself; a part of an own block read as values. -/
import Derived.Test.YtjjdabihnmilgaaGreatXRTGrpAJ
import Derived.Shelf.Spec.SlicesInsertGrow
import Derived.Laws.BitsLemmas
import Derived.Laws.Bits64
import Derived.Test.YtjjdabihnmilgaaGreatXRTGrpAI
namespace Go.Proofs.YtjjdabihnmilgaaGreat.A
open Go.RowKit
set_option linter.unusedVariables false
set_option linter.unusedSimpArgs false
section
variable {C : Cx} {s : St} {γ : Nat → Option Nat} {κ : Nat → Nat} {a : Act} {W : World}
/-- An own block lies where it lay, or in new memory, and has other rows, as many as before or more. -/
theorem Conc.swap {id : Nat} {b : Blk} (hC : Conc C s γ κ a W) (hb : s.hp[id]? = some b) {g' k' : Nat} {rows' : List (List AV)} {ys' sp' : List Value} {W' : World}
    (hW : W'.heap[g']? = some (.cells (ys' ++ sp').toArray b.ty (0, 0))) (hfar : ∀ x, x ≠ g' → x < W.heap.size → W'.heap[x]? = W.heap[x]?) (hsize : W.heap.size ≤ W'.heap.size)
    (hos : W'.os = W.os) (htape : W'.tape = W.tape) (hout : W'.output = W.output) (hg : γ id = some g' ∨ W.heap.size ≤ g')
    (hsame : b.rows.length = rows'.length → γ id = some g' ∧ κ id = k') (hrl : b.rows.length ≤ rows'.length) (hr : ∀ r ∈ rows', r.length = b.sz) (hc : ∀ c ∈ rows'.flatten, c.cell = true)
    (hcap : rows'.length ≤ k') (hcapm : k' ≤ maxLen) (hlen : (ys' ++ sp').length = k' * b.sz) (hrep : All2 (RepA (s.mm C γ κ W)) rows'.flatten ys') :
    ∃ γ' κ', Conc C ⟨s.env, s.hp.set id ⟨b.ty, b.sz, rows'⟩⟩ γ' κ' a W' ∧ γ' id = some g' ∧ κ' id = k' := by
  have hid : id < s.hp.length := (List.getElem?_eq_some_iff.1 hb).1
  have hB := hC.blk id b hb
  let γ' : Nat → Option Nat := fun i => if i = id then some g' else γ i
  let κ' : Nat → Nat := fun i => if i = id then k' else κ i
  have hγ : ∀ i, i ≠ id → γ' i = γ i := fun i hi => by simp [γ', hi]
  have hκ : ∀ i, i ≠ id → κ' i = κ i := fun i hi => by simp [κ', hi]
  have hγn : γ' id = some g' := by simp [γ']
  have hκn : κ' id = k' := by simp [κ']
  let b' : Blk := ⟨b.ty, b.sz, rows'⟩
  have hgl : ∀ i g, i < s.hp.length → γ i = some g → g < W.heap.size := by
    intro i g hi hg
    obtain ⟨bb, hbb⟩ : ∃ bb, s.hp[i]? = some bb := ⟨_, List.getElem?_eq_getElem hi⟩
    obtain ⟨ys, sp, h2, _⟩ := hC.mem hbb hg
    exact blk_lt h2
  -- other blocks lie elsewhere
  have hother : ∀ i g, i < s.hp.length → i ≠ id → γ i = some g → g ≠ g' := by
    intro i g hi hne hgi e
    subst e
    rcases hg with h | h
    · exact hne (hC.inj i id g hi hid hgi h)
    · have := hgl i g hi hgi; omega
  have hnX : ¬ C.X g' ∧ (C.w0.heap.size ≤ g' ∨ C.may g') := by
    rcases hg with h | h
    · exact hC.own id g' hid h
    · refine ⟨fun hX => ?_, .inl (Nat.le_trans hC.hsize h)⟩
      have := hC.xlt _ hX
      have := hC.hsize
      omega
  have hKeep : Keep (s.mm C γ κ W) (St.mm ⟨s.env, s.hp.set id b'⟩ C γ' κ' W') := by
    refine ⟨fun x hx ⟨o, ho⟩ => ?_, fun id' bb hbb => ?_⟩
    · have hxs : x < W.heap.size := blk_lt (W := W) ho
      have hxg : x ≠ g' := by
        intro e
        subst e
        rcases hg with h | h
        · exact hx (.inr ⟨id, hid, h⟩)
        · omega
      refine ⟨hfar x hxg hxs, ?_⟩
      show ¬ nset C.X γ' (s.hp.set id b').length x
      rintro (h | ⟨i, hi, hgi⟩)
      · exact hx (.inl h)
      · by_cases e : i = id
        · subst e; rw [hγn] at hgi; cases hgi; exact hxg rfl
        · rw [hγ i e] at hgi
          exact hx (.inr ⟨i, by simpa using hi, hgi⟩)
    · show ∃ b'', (s.hp.set id b')[id']? = some b'' ∧ _
      have hbb' : s.hp[id']? = some bb := hbb
      by_cases e : id = id'
      · subst e
        rw [hb] at hbb'; cases hbb'
        refine ⟨b', by rw [List.getElem?_set_self hid], rfl, hrl, fun h => ?_⟩
        obtain ⟨h1, h2⟩ := hsame h
        exact ⟨hγn.trans h1.symm, hκn.trans h2.symm⟩
      · exact ⟨bb, by rw [List.getElem?_set_ne e]; exact hbb', rfl, Nat.le_refl _, fun _ => ⟨hγ id' fun h => e h.symm, hκ id' fun h => e h.symm⟩⟩
  refine ⟨γ', κ', ⟨hC.size, hC.defers, ?_, ?_, ?_, ?_, hC.xlt, ?_, hos.trans hC.hos, htape.trans hC.htape, hout.trans hC.hout, Nat.le_trans hC.hsize hsize, hC.lent.keep hKeep⟩, hγn, hκn⟩
  · intro t v h
    obtain ⟨x, h1, h2⟩ := hC.env t v h
    exact ⟨x, h1, h2.keep hKeep⟩
  · intro id' bb hbb
    have hbb' : (s.hp.set id b')[id']? = some bb := hbb
    by_cases e : id = id'
    · subst e
      rw [List.getElem?_set_self hid] at hbb'
      obtain rfl := Option.some.inj hbb'
      refine ⟨hB.pos, hr, hc, ?_, ?_, .inr ⟨g', ys', sp', hγn, hW, ?_, hrep.mono fun _ _ h => h.keep hKeep⟩⟩
      · show rows'.length ≤ κ' id
        rw [hκn]; exact hcap
      · show κ' id ≤ _
        rw [hκn]; exact hcapm
      · show _ = κ' id * _
        rw [hκn]; exact hlen
    · rw [List.getElem?_set_ne e] at hbb'
      have hi' := (List.getElem?_eq_some_iff.1 hbb').1
      have ho := hC.blk id' bb hbb'
      refine ⟨ho.pos, ho.rows, ho.cell, ?_, ?_, ?_⟩
      · show _ ≤ κ' id'
        rw [hκ id' fun h => e h.symm]; exact ho.cap
      · show κ' id' ≤ _
        rw [hκ id' fun h => e h.symm]; exact ho.capm
      rcases ho.mem with ⟨h1, h2, h3⟩ | ⟨g2, ys2, sp2, h1, h2, h3, h4⟩
      · exact .inl ⟨by show γ' id' = none; rw [hγ id' fun h => e h.symm]; exact h1, h2, by show κ' id' = 0; rw [hκ id' fun h => e h.symm]; exact h3⟩
      · refine .inr ⟨g2, ys2, sp2, by show γ' id' = _; rw [hγ id' fun h => e h.symm]; exact h1, ?_, by show _ = κ' id' * _; rw [hκ id' fun h => e h.symm]; exact h3, h4.mono fun _ _ h => h.keep hKeep⟩
        exact (hfar g2 (hother id' g2 hi' (fun h => e h.symm) h1) (blk_lt (W := W) h2)).trans h2
  · intro i j g hi hj h1 h2
    have hi' : i < s.hp.length := by simpa using hi
    have hj' : j < s.hp.length := by simpa using hj
    by_cases e1 : i = id <;> by_cases e2 : j = id
    · rw [e1, e2]
    · rw [e1, hγn] at h1; cases h1
      rw [hγ j e2] at h2
      exact absurd rfl (hother j _ hj' e2 h2)
    · rw [e2, hγn] at h2; cases h2
      rw [hγ i e1] at h1
      exact absurd rfl (hother i _ hi' e1 h1)
    · rw [hγ i e1] at h1; rw [hγ j e2] at h2
      exact hC.inj i j g hi' hj' h1 h2
  · intro i g hi hgi
    have hi' : i < s.hp.length := by simpa using hi
    by_cases e1 : i = id
    · rw [e1, hγn] at hgi; cases hgi; exact hnX
    · rw [hγ i e1] at hgi
      exact hC.own i g hi' hgi
  · intro x hx hl
    have hxs : x < W.heap.size := Nat.lt_of_lt_of_le hx hC.hsize
    have hne : x ≠ g' := by
      intro e
      rcases hnX.2 with h | h
      · omega
      · exact hl (by rw [e]; exact h)
    exact (hfar x hne hxs).trans (hC.old x hx hl)
theorem all2_im {M : Mm} {l : List (List IV)} : ∀ {xs : List Value}, All2 (RepA M) (l.map (·.map .imm)).flatten xs → All2 (RepI M.W M.N) l.flatten xs := by
  intro xs h
  have e : (l.map (·.map AV.imm)).flatten = l.flatten.map AV.imm := by simp [List.map_flatten]
  rw [e] at h
  clear e
  generalize l.flatten = m at h
  induction m generalizing xs with
  | nil => cases h; exact .nil
  | cons v m ih =>
    cases h with
    | cons h1 h2 => cases h1 with | imm _ _ h1 => exact .cons h1 (ih h2)
theorem flat_take {α : Type} {rows : List (List α)} {sz : Nat} (hr : ∀ r ∈ rows, r.length = sz) : ∀ n, (rows.take n).flatten = rows.flatten.take (n * sz) := by
  induction rows with
  | nil => intro n; simp
  | cons r l ih =>
    intro n
    cases n with
    | zero => simp
    | succ n =>
      have h1 := hr r (by simp)
      rw [List.take_succ_cons, List.flatten_cons, List.flatten_cons, ih fun r h => hr r (by simp [h]), Nat.succ_mul, List.take_append, h1, show List.take (n * sz + sz) r = r from List.take_of_length_le (by omega), Nat.add_sub_cancel]
theorem flat_drop {α : Type} {rows : List (List α)} {sz : Nat} (hr : ∀ r ∈ rows, r.length = sz) : ∀ n, (rows.drop n).flatten = rows.flatten.drop (n * sz) := by
  induction rows with
  | nil => intro n; simp
  | cons r l ih =>
    intro n
    cases n with
    | zero => simp
    | succ n =>
      have h1 := hr r (by simp)
      rw [List.drop_succ_cons, List.flatten_cons, ih fun r h => hr r (by simp [h]), Nat.succ_mul, List.drop_append, h1, show List.drop (n * sz + sz) r = [] from List.drop_eq_nil_of_le (by omega), Nat.add_sub_cancel, List.nil_append]
/-- A part of an own list, given up. -/
theorem Fz.sub {id ver off n : Nat} {b : Blk} (hb : nth s.hp id = some b) (hver : ver = b.rows.length) {all : List (List IV)} (hr : b.rows = all.map (·.map .imm)) : Fz C s (.sub id ver off n) (.imm (.sl ((all.drop off).take n))) := by
  intro γ κ a W x hC hx
  rw [nth_eq] at hb
  have hB := hC.blk id b hb
  cases hx with
  | sub _ _ _ _ b' A c hb' hv hx hc =>
    have hb'' : s.hp[id]? = some b' := hb'
    rw [hb] at hb''
    cases hb''
    obtain ⟨h1, h2⟩ := hx hver
    rcases Nat.eq_zero_or_pos n with h0 | h0
    · subst h0
      exact .imm _ _ (.nil _ _)
    · obtain ⟨g, hg, rfl⟩ := h2 h0
      obtain ⟨ys, sp, hmem, hlen, hys⟩ := hC.mem hb hg
      have hal : all.length = ver := by rw [hver, hr, List.length_map]
      have hrl : ∀ r ∈ all, r.length = b.sz := by
        intro r hr'
        have := hB.rows (r.map .imm) (by rw [hr]; exact List.mem_map.2 ⟨r, hr', rfl⟩)
        simpa using this
      have hl : ((all.drop off).take n).length = n := by rw [List.length_take, List.length_drop]; omega
      have hy := all2_im (by rw [hr] at hys; exact hys)
      have hyl : ys.length = all.length * b.sz := by rw [← hy.length, flat_len hrl]
      refine .imm _ _ (.sl _ ⟨g, off * b.sz, none⟩ n _ b.sz ((ys.drop (off * b.sz)).take (n * b.sz)) (fun e => by rw [e] at hl; simp at hl; omega) hB.pos hl.symm hc ?_ (fun r h => hrl r (List.mem_of_mem_drop (List.mem_of_mem_take h))) ?_ ?_)
      · have hid : id < s.hp.length := (List.getElem?_eq_some_iff.1 hb).1
        exact (hC.own id g hid hg).1
      · intro j y hj
        have e : (⟨g, off * b.sz, none⟩ : Addr).add j = ⟨g, off * b.sz + j, none⟩ := by unfold Addr.add; split <;> simp_all
        show W.cell? _ = _
        rw [e, blk_cell hmem]
        simp only [List.getElem?_toArray]
        rw [List.getElem?_take] at hj
        split at hj
        · rw [List.getElem?_drop] at hj
          rw [List.getElem?_append_left (List.getElem?_eq_some_iff.1 hj).1]; exact hj
        · cases hj
      · rw [flat_take (fun r h => hrl r (List.mem_of_mem_drop h)), flat_drop hrl]
        refine ((hy.drop _).take _).mono fun _ _ h => h.keep fun b hb _ => ⟨rfl, fun hx => hb (.inl hx)⟩
end
end Go.Proofs.YtjjdabihnmilgaaGreat.A
namespace Go.Proofs.YtjjdabihnmilgaaGreat.A
open Go.RowKit Go.Lib
set_option linter.unusedVariables false
set_option linter.unusedSimpArgs false
/-- a row of one number. -/
def cK (K : IntKind) (x : Int) : List AV := [.imm (.int K x)]
theorem cK_row {K : IntKind} (l : List Int) : ∀ r ∈ l.map (cK K), r.length = 1 := by
  intro r hr
  obtain ⟨x, _, rfl⟩ := List.mem_map.1 hr
  rfl
theorem cK_cell {K : IntKind} (l : List Int) : ∀ c ∈ (l.map (cK K)).flatten, c.cell = true := by
  intro c hc
  obtain ⟨r, hr, hc⟩ := List.mem_flatten.1 hc
  obtain ⟨x, _, rfl⟩ := List.mem_map.1 hr
  simp [cK] at hc
  subst hc; rfl
theorem cK_rep {M : Mm} (K : IntKind) : ∀ l : List Int, All2 (RepA M) (l.map (cK K)).flatten (l.map (Value.int K))
  | [] => .nil
  | x :: l => .cons (.imm _ _ (.int _ _)) (cK_rep K l)
theorem cK_vals {M : Mm} {K : IntKind} : ∀ {l : List Int} {ys : List Value}, All2 (RepA M) (l.map (cK K)).flatten ys → ys = l.map (Value.int K)
  | [], ys, h => by cases h; rfl
  | x :: l, ys, h => by
    cases h with
    | cons h1 h2 =>
      cases h1 with
      | imm _ _ h1 =>
        rw [h1.int_inv, cK_vals h2]; rfl
end Go.Proofs.YtjjdabihnmilgaaGreat.A
namespace Go.Proofs.YtjjdabihnmilgaaGreat.A
open Go.RowKit
set_option linter.unusedVariables false
set_option linter.unusedSimpArgs false
section
variable {C : Cx} {s : St} {o : Oper} {T : List (Nat × TI)} {l : List Oper}
theorem OpOK.convTo (hT : TsOK C.P T) (hd : dok C.nt o.dst = true) {t t2 : TypeId} {x : Operand} (ho : o.op = .convert t t2 x) {i i2 : TI} (hi : look T t = some i) (hi2 : look T t2 = some i2) {k k2 : IntKind} (hk : i2.kd = .int k2) {n : Int} (hx : s.ev x = some (.imm (.int k n))) (hw : k2.wrap n = n) : OpOK C s o (s.put o.dst (.imm (.int k2 n))) := by
  have := OpOK.convInt hT hd ho hi hi2 hk hx
  rwa [hw] at this
theorem OpOK.toI64 (hT : TsOK C.P T) (hd : dok C.nt o.dst = true) {t t2 : TypeId} {x : Operand} (ho : o.op = .convert t t2 x) {i i2 : TI} (hi : look T t = some i) (hi2 : look T t2 = some i2) {k : IntKind} (hk : i2.kd = .int .i64) {n : Int} (hx : s.ev x = some (.imm (.int k n))) (h0 : -9223372036854775808 ≤ n) (h1 : n < 9223372036854775808) : OpOK C s o (s.put o.dst (.imm (.int .i64 n))) :=
  OpOK.convTo hT hd ho hi hi2 hk hx (by rw [IntKind.wrap_i64]; omega)
theorem OpOK.max2 (hd : dok C.nt o.dst = true) {x y : Operand} {t t2 : TypeId} (ho : o.op = .call ⟨.builtin .max, #[x, y], #[t, t2]⟩) {k k2 : IntKind} {m n : Int} (hx : s.ev x = some (.imm (.int k m))) (hy : s.ev y = some (.imm (.int k2 n))) : OpOK C s o (s.put o.dst (.imm (.int k (max m n)))) :=
  OpOK.quiet hd fun γ κ a W hC => by
    have h1 := hC.ev hx
    have h2 := hC.ev hy
    cases h1 with
    | imm _ _ h1 => cases h2 with
      | imm _ _ h2 =>
        refine ⟨.int k (if n > m then n else m), ?_, ?_⟩
        · unfold execOp; rw [ho]
          simp only [resolve, invoke, builtin, Sem.run_bind, Sem.run_pure, Result.andThen_ok, List.map_toArray, List.map_cons, List.map_nil, h1.int_inv, h2.int_inv]
          rfl
        · rw [show (if n > m then n else m) = max m n by split <;> omega]
          exact .imm _ _ (.int _ _)
theorem LS.max2 (hw : awant l s o = some true) (hd : dok C.nt o.dst = true) {x y : Operand} {t t2 : TypeId} (ho : o.op = .call ⟨.builtin .max, #[x, y], #[t, t2]⟩) {k k2 : IntKind} {m n : Int} (hx : s.ev x = some (.imm (.int k m))) (hy : s.ev y = some (.imm (.int k2 n))) : LS C l s o (mkFx l s o (.val (.imm (.int k (max m n)))) []) :=
  LS.quiet [] hw fun s' hl => OpOK.max2 hd ho ((hl.ev x (by rw [ho]; simp [Op.operands, Call.operands])).trans hx) ((hl.ev y (by rw [ho]; simp [Op.operands, Call.operands])).trans hy)
end
end Go.Proofs.YtjjdabihnmilgaaGreat.A
namespace Go.Proofs.YtjjdabihnmilgaaGreat.A
open Go.RowKit
set_option linter.unusedVariables false
set_option linter.unusedSimpArgs false
section
variable {C : Cx} {s : St} {T : List (Nat × TI)} {l : List Oper} {Q : Exit → St → Prop}
/-- in a value, what lies in block k as it is becomes a list that stays. -/
def frz0 (k n : Nat) (rows : List (List IV)) : AV → AV
  | .os id m => bif Nat.beq id k && Nat.beq m n then .imm (.sl rows) else .os id m
  | v => v
def frz (k n : Nat) (rows : List (List IV)) : AV → AV
  | .agg l => .agg (l.map (frz0 k n rows))
  | .tup l => .tup (l.map (frz0 k n rows))
  | v => frz0 k n rows v
theorem frz0_cases (k n : Nat) (rows : List (List IV)) (v : AV) : (v = .os k n ∧ frz0 k n rows v = .imm (.sl rows)) ∨ frz0 k n rows v = v := by
  cases v with
  | os id m =>
    simp only [frz0]
    cases hc : (Nat.beq id k && Nat.beq m n) with
    | true =>
      rw [Bool.and_eq_true] at hc
      have e1 := Nat.eq_of_beq_eq_true hc.1
      have e2 := Nat.eq_of_beq_eq_true hc.2
      exact .inl ⟨by rw [e1, e2], rfl⟩
    | false => exact .inr rfl
  | _ => exact .inr rfl
theorem frz_cases (k n : Nat) (rows : List (List IV)) (v : AV) : (∃ l, v = .agg l ∧ frz k n rows v = .agg (l.map (frz0 k n rows))) ∨ (∃ l, v = .tup l ∧ frz k n rows v = .tup (l.map (frz0 k n rows))) ∨ frz k n rows v = frz0 k n rows v := by
  cases v with
  | agg l => exact .inl ⟨l, rfl, rfl⟩
  | tup l => exact .inr (.inl ⟨l, rfl, rfl⟩)
  | _ => exact .inr (.inr rfl)
def EnvG (e : List (Nat × AV)) (g : AV → AV) : List (Nat × AV) → Prop
  | [] => True
  | (t, v) :: r => (∃ u, get e t = some u ∧ g u = v) ∧ EnvG e g r
theorem getG {e : List (Nat × AV)} {g : AV → AV} : ∀ {e1 : List (Nat × AV)}, EnvG e g e1 → ∀ {t : Nat} {v : AV}, get e1 t = some v → (∃ u, get e t = some u ∧ g u = v) ∧ ∃ p ∈ e1, p.2 = v
  | [], _, t, v, h => by cases h
  | (d, u) :: r, hle, t, v, h => by
    simp only [get] at h
    split at h
    · rename_i e
      have e' := Nat.eq_of_beq_eq_true e
      obtain rfl := Option.some.inj h
      subst e'
      exact ⟨hle.1, _, List.mem_cons_self, rfl⟩
    · obtain ⟨h1, p, h2, h3⟩ := getG hle.2 h
      exact ⟨h1, p, List.mem_cons_of_mem _ h2, h3⟩
theorem Le.giveE (k : Nat) {env env1 : List (Nat × AV)} {hp : List Blk} {b : Blk} {rows : List (List IV)} (hb : nth hp k = some b) (hr : b.rows = rows.map (·.map .imm)) (henv : EnvG env (frz k (len b.rows) rows) env1) (hsc : env1.all (fun p => p.2.sc1 k) = true) (hblk : (hp.take k).all (fun b => b.rows.all fun r => r.all (AV.sc1 k)) = true) (hl : C.hp0.length ≤ k) :
    Le C ⟨env, hp⟩ ⟨env1, hp.take k⟩ := by
  intro γ κ a W hC
  refine ⟨γ, κ, ?_⟩
  have hlen : (hp.take k).length ≤ hp.length := by simp; omega
  have hget : ∀ id, id < k → (hp.take k)[id]? = hp[id]? := fun id hi => List.getElem?_take_of_lt hi
  have hN : ∀ b, nset C.X γ (hp.take k).length b → nset C.X γ hp.length b := by
    rintro b (h | ⟨i, hi, hg⟩)
    · exact .inl h
    · exact .inr ⟨i, by omega, hg⟩
  obtain ⟨M, hM⟩ : ∃ M, M = St.mm ⟨env, hp⟩ C γ κ W := ⟨_, rfl⟩
  obtain ⟨M', hM'⟩ : ∃ M', M' = St.mm ⟨env1, hp.take k⟩ C γ κ W := ⟨_, rfl⟩
  have hkeep : ∀ {v x}, RepA M v x → v.sc k = true → RepA M' v x := fun h hs => by subst hM hM'; exact sc_keep (M := St.mm ⟨env, hp⟩ C γ κ W) (M' := St.mm ⟨env1, hp.take k⟩ C γ κ W) rfl hN rfl rfl hget h hs
  have hkeep1 : ∀ {v x}, RepA M v x → v.sc1 k = true → RepA M' v x := fun h hs => by subst hM hM'; exact sc1_keep (M := St.mm ⟨env, hp⟩ C γ κ W) (M' := St.mm ⟨env1, hp.take k⟩ C γ κ W) rfl hN rfl rfl hget h hs
  have hkeep0 : ∀ {v x}, RepA M v x → v.sc0 k = true → RepA M' v x := fun h hs => by subst hM hM'; exact sc0_keep (M := St.mm ⟨env, hp⟩ C γ κ W) (M' := St.mm ⟨env1, hp.take k⟩ C γ κ W) rfl hN rfl rfl hget h hs
  rw [List.all_eq_true] at hsc hblk
  have hos : ∀ x, RepA M (.os k b.rows.length) x → RepA M' (.imm (.sl rows)) x := by
    intro x h4
    subst hM hM'
    rw [nth_eq] at hb
    have hB := hC.blk k b hb
    have e2 := h4.os_val hb rfl
    subst e2
    rcases hB.mem with ⟨h1, h2, h3'⟩ | ⟨g, ys, sp, h1, h2, h3', h4'⟩
    · have : rows = [] := by
        rw [h2] at hr
        exact List.map_eq_nil_iff.1 hr.symm
      subst this
      rw [h2]
      exact .imm _ _ (.nil _ _)
    · by_cases hne : rows = []
      · subst hne
        have hn0 : b.rows.length = 0 := by rw [hr]; rfl
        rw [hn0]
        exact .imm _ _ (.nil _ _)
      · rw [h1]
        have hid : k < hp.length := (List.getElem?_eq_some_iff.1 hb).1
        have hrl : ∀ r ∈ rows, r.length = b.sz := by
          intro r hr'
          have := hB.rows (r.map .imm) (by rw [hr]; exact List.mem_map.2 ⟨r, hr', rfl⟩)
          simpa using this
        refine .imm _ _ (.sl rows ⟨g, 0, none⟩ b.rows.length _ b.sz ys hne hB.pos (by rw [hr, List.length_map]) hB.cap ?_ hrl ?_ ?_)
        · rintro (hx | ⟨i, hi, hg⟩)
          · exact (hC.own k g hid h1).1 hx
          · have hi' : i < k := by simp at hi; omega
            have := hC.inj i k g (Nat.lt_trans hi' hid) hid hg h1
            omega
        · intro j y hj
          have e : (⟨g, 0, none⟩ : Addr).add j = ⟨g, 0 + j, none⟩ := by unfold Addr.add; split <;> simp_all
          have h2' : W.heap[g]? = some (.cells (ys ++ sp).toArray b.ty (0, 0)) := h2
          show W.cell? _ = _
          rw [e, blk_cell h2']
          simp only [List.getElem?_toArray, Nat.zero_add]
          rw [List.getElem?_append_left (List.getElem?_eq_some_iff.1 hj).1]; exact hj
        · rw [hr, ← List.map_flatten] at h4'
          have key : ∀ {l : List IV} {ys : List Value}, All2 (RepA (St.mm ⟨env, hp⟩ C γ κ W)) (l.map .imm) ys → All2 (RepI W (nset C.X γ (hp.take k).length)) l ys := by
            intro l
            induction l with
            | nil => intro ys h; cases h; exact .nil
            | cons v l ih =>
              intro ys h
              cases h with
              | cons h1 h2 => cases h1 with
                | imm _ _ h1 => exact .cons (h1.keep fun b hb _ => ⟨rfl, fun hx => hb (hN b hx)⟩) (ih h2)
          exact key h4'
  have hf0 : ∀ {v x}, RepA M v x → (frz0 k (len b.rows) rows v).sc0 k = true → RepA M' (frz0 k (len b.rows) rows v) x := by
    intro v x h hs
    rcases frz0_cases k (len b.rows) rows v with ⟨e1, e2⟩ | e
    · rw [e2]
      subst e1
      rw [len_eq] at h
      exact hos x h
    · rw [e] at hs ⊢
      exact hkeep0 h hs
  have hl0 : ∀ {l : List AV} {xs : List Value}, All2 (RepA M) l xs → (l.map (frz0 k (len b.rows) rows)).all (AV.sc0 k) = true → All2 (RepA M') (l.map (frz0 k (len b.rows) rows)) xs := by
    intro l
    induction l with
    | nil => intro xs h _; cases h; exact .nil
    | cons v l ih =>
      intro xs h hs
      cases h with
      | cons h1 h2 =>
        simp only [List.map_cons, List.all_cons, Bool.and_eq_true] at hs
        exact .cons (hf0 h1 hs.1) (ih h2 hs.2)
  have hall : ∀ {v x}, RepA M v x → (frz k (len b.rows) rows v).sc1 k = true → RepA M' (frz k (len b.rows) rows v) x := by
    intro v x h hs
    rcases frz_cases k (len b.rows) rows v with ⟨l, e1, e2⟩ | ⟨l, e1, e2⟩ | e
    · rw [e2] at hs ⊢
      subst e1
      cases h with
      | agg _ xs h => exact .agg _ xs (hl0 h hs)
    · rw [e2] at hs ⊢
      subst e1
      cases h with
      | tup _ xs h => exact .tup _ xs (hl0 h hs)
    · rw [e] at hs ⊢
      rcases frz0_cases k (len b.rows) rows v with ⟨e1, e2⟩ | e
      · rw [e2]
        subst e1
        rw [len_eq] at h
        exact hos x h
      · rw [e] at hs ⊢
        exact hkeep1 h hs
  refine ⟨hC.size, hC.defers, ?_, ?_, fun i j g hi hj => hC.inj i j g (Nat.lt_of_lt_of_le hi hlen) (Nat.lt_of_lt_of_le hj hlen), fun i g hi => hC.own i g (Nat.lt_of_lt_of_le hi hlen), hC.xlt, hC.old, hC.hos, hC.htape, hC.hout, hC.hsize, ?_⟩
  · intro t' v h
    obtain ⟨⟨u, hu, hv⟩, p, h1, h2⟩ := getG henv h
    obtain ⟨x, h3, h4⟩ := hC.env t' u hu
    refine ⟨x, h3, ?_⟩
    have := hsc p h1
    rw [h2, ← hv] at this
    rw [← hv, ← hM']
    exact hall (by rw [hM]; exact h4) this
  · intro id b' hb'
    have hid : id < k := by
      have := (List.getElem?_eq_some_iff.1 (show (hp.take k)[id]? = some b' from hb')).1
      simp at this; omega
    have hb0 : hp[id]? = some b' := by rw [← hget id hid]; exact hb'
    have ho := hC.blk id b' hb0
    have hs := hblk b' (List.mem_of_getElem? hb')
    refine ⟨ho.pos, ho.rows, ho.cell, ho.cap, ho.capm, ?_⟩
    rcases ho.mem with h1 | ⟨g', ys', sp', h1, h2, h3, h4⟩
    · exact .inl h1
    · refine .inr ⟨g', ys', sp', h1, h2, h3, h4.mono_mem fun v x hm _ h => ?_⟩
      rw [← hM']
      refine hkeep1 (by rw [hM]; exact h) ?_
      obtain ⟨r, hr, hv⟩ := List.mem_flatten.1 hm
      rw [List.all_eq_true] at hs
      have := hs r hr
      rw [List.all_eq_true] at this
      exact this v hv
  · intro i b0 hb0
    obtain ⟨b, h1, h2⟩ := hC.lent i b0 hb0
    have : i < C.hp0.length := (List.getElem?_eq_some_iff.1 hb0).1
    exact ⟨b, by show (hp.take k)[i]? = _; rw [hget i (by omega)]; exact h1, h2⟩
/-- In a region, ahead of an operation that uses the list. -/
theorem AL.give (k : Nat) {env1 env : List (Nat × AV)} {hp : List Blk} {b : Blk} (rows : List (List IV)) {h1 : List Blk} (hb : nth hp k = some b) (hr : b.rows = rows.map (·.map .imm)) (henv : EnvG env (frz k (len b.rows) rows) env1) (hsc : env1.all (fun p => p.2.sc1 k) = true) (e1 : hp.take k = h1) (hblk : h1.all (fun b => b.rows.all fun r => r.all (AV.sc1 k)) = true) (hl : C.hp0.length ≤ k) {rest : List Oper}
    (h : AL C l Q rest ⟨env1, h1⟩) : AL C l Q rest ⟨env, hp⟩ := by
  subst e1
  exact AL.weak (Le.giveE k hb hr henv hsc hblk hl) h
end
end Go.Proofs.YtjjdabihnmilgaaGreat.A
namespace Go.Proofs.YtjjdabihnmilgaaGreat.A
open Go.RowKit
set_option linter.unusedVariables false
set_option linter.unusedSimpArgs false
def frp0 (k : Nat) (row : List IV) : AV → AV
  | .ptr id ver r off => bif Nat.beq id k && Nat.beq ver 1 && Nat.beq r 0 && Nat.blt off (len row) then .pin (row.drop off) else .ptr id ver r off
  | v => v
def frp (k : Nat) (row : List IV) : AV → AV
  | .agg l => .agg (l.map (frp0 k row))
  | .tup l => .tup (l.map (frp0 k row))
  | .fn f l => .fn f (l.map (frp0 k row))
  | v => frp0 k row v
theorem frp0_cases (k : Nat) (row : List IV) (v : AV) : (∃ off, v = .ptr k 1 0 off ∧ off < row.length ∧ frp0 k row v = .pin (row.drop off)) ∨ frp0 k row v = v := by
  cases v with
  | ptr id ver r off =>
    simp only [frp0]
    cases hc : (Nat.beq id k && Nat.beq ver 1 && Nat.beq r 0 && Nat.blt off (len row)) with
    | true =>
      simp only [Bool.and_eq_true] at hc
      obtain ⟨⟨⟨h1, h2⟩, h3⟩, h4⟩ := hc
      have e1 := Nat.eq_of_beq_eq_true h1
      have e2 := Nat.eq_of_beq_eq_true h2
      have e3 := Nat.eq_of_beq_eq_true h3
      have e4 : off < len row := Nat.le_of_ble_eq_true h4
      rw [len_eq] at e4
      exact .inl ⟨off, by rw [e1, e2, e3], e4, rfl⟩
    | false => exact .inr rfl
  | _ => exact .inr rfl
theorem frp_cases (k : Nat) (row : List IV) (v : AV) : (∃ l, v = .agg l ∧ frp k row v = .agg (l.map (frp0 k row))) ∨ (∃ l, v = .tup l ∧ frp k row v = .tup (l.map (frp0 k row))) ∨ (∃ f l, v = .fn f l ∧ frp k row v = .fn f (l.map (frp0 k row))) ∨ frp k row v = frp0 k row v := by
  cases v with
  | agg l => exact .inl ⟨l, rfl, rfl⟩
  | tup l => exact .inr (.inl ⟨l, rfl, rfl⟩)
  | fn f l => exact .inr (.inr (.inl ⟨f, l, rfl, rfl⟩))
  | _ => exact .inr (.inr (.inr rfl))
section
variable {C : Cx}
theorem Le.pinE (k : Nat) {env env1 : List (Nat × AV)} {hp : List Blk} {b : Blk} {row : List IV} (hb : nth hp k = some b) (hr : b.rows = [row.map .imm]) (henv : EnvG env (frp k row) env1) (hsc : env1.all (fun p => p.2.sc1 k) = true) (hblk : (hp.take k).all (fun b => b.rows.all fun r => r.all (AV.sc1 k)) = true) (hl : C.hp0.length ≤ k) :
    Le C ⟨env, hp⟩ ⟨env1, hp.take k⟩ := by
  intro γ κ a W hC
  refine ⟨γ, κ, ?_⟩
  have hlen : (hp.take k).length ≤ hp.length := by simp; omega
  have hget : ∀ id, id < k → (hp.take k)[id]? = hp[id]? := fun id hi => List.getElem?_take_of_lt hi
  have hN : ∀ b, nset C.X γ (hp.take k).length b → nset C.X γ hp.length b := by
    rintro b (h | ⟨i, hi, hg⟩)
    · exact .inl h
    · exact .inr ⟨i, by omega, hg⟩
  obtain ⟨M, hM⟩ : ∃ M, M = St.mm ⟨env, hp⟩ C γ κ W := ⟨_, rfl⟩
  obtain ⟨M', hM'⟩ : ∃ M', M' = St.mm ⟨env1, hp.take k⟩ C γ κ W := ⟨_, rfl⟩
  have hkeep1 : ∀ {v x}, RepA M v x → v.sc1 k = true → RepA M' v x := fun h hs => by subst hM hM'; exact sc1_keep (M := St.mm ⟨env, hp⟩ C γ κ W) (M' := St.mm ⟨env1, hp.take k⟩ C γ κ W) rfl hN rfl rfl hget h hs
  have hkeep0 : ∀ {v x}, RepA M v x → v.sc0 k = true → RepA M' v x := fun h hs => by subst hM hM'; exact sc0_keep (M := St.mm ⟨env, hp⟩ C γ κ W) (M' := St.mm ⟨env1, hp.take k⟩ C γ κ W) rfl hN rfl rfl hget h hs
  rw [List.all_eq_true] at hsc hblk
  have hpt : ∀ off x, off < row.length → RepA M (.ptr k 1 0 off) x → RepA M' (.pin (row.drop off)) x := by
    intro off x hoff h4
    subst hM hM'
    rw [nth_eq] at hb
    have hB := hC.blk k b hb
    cases h4 with
    | ptr _ _ _ _ b' q hb' hv hx =>
      have hb'' : hp[k]? = some b' := hb'
      rw [hb] at hb''
      cases hb''
      obtain ⟨g, hg, rfl⟩ := hx (by rw [hr]; rfl)
      have hg : γ k = some g := hg
      rcases hB.mem with ⟨h1, _⟩ | ⟨g', ys, sp, h1, h2, h3', h4'⟩
      · have h1 : γ k = none := h1
        rw [hg] at h1; cases h1
      · have h1 : γ k = some g' := h1
        rw [hg] at h1; cases h1
        have hid : k < hp.length := (List.getElem?_eq_some_iff.1 hb).1
        rw [hr] at h4'
        simp only [List.flatten_cons, List.flatten_nil, List.append_nil] at h4'
        have key : ∀ {l : List IV} {ys : List Value}, All2 (RepA (St.mm ⟨env, hp⟩ C γ κ W)) (l.map .imm) ys → All2 (RepI W (nset C.X γ (hp.take k).length)) l ys := by
          intro l
          induction l with
          | nil => intro ys h; cases h; exact .nil
          | cons v l ih =>
            intro ys h
            cases h with
            | cons h1 h2 => cases h1 with
              | imm _ _ h1 => exact .cons (h1.keep fun b hb _ => ⟨rfl, fun hx => hb (hN b hx)⟩) (ih h2)
        refine .pin (row.drop off) ⟨g, 0 * b.sz + off, none⟩ (ys.drop off) ?_ ?_ ?_ ((key h4').drop off)
        · intro e
          have := List.drop_eq_nil_iff.1 e
          omega
        · rintro (hx | ⟨i, hi, hgi⟩)
          · exact (hC.own k g hid hg).1 hx
          · have hi' : i < k := by simp at hi; omega
            have := hC.inj i k g (Nat.lt_trans hi' hid) hid hgi hg
            omega
        · intro j y hj
          have e : (⟨g, 0 * b.sz + off, none⟩ : Addr).add j = ⟨g, off + j, none⟩ := by unfold Addr.add; split <;> simp_all
          have h2' : W.heap[g]? = some (.cells (ys ++ sp).toArray b.ty (0, 0)) := h2
          show W.cell? _ = _
          rw [e, blk_cell h2']
          rw [List.getElem?_drop] at hj
          simp only [List.getElem?_toArray]
          rw [List.getElem?_append_left (List.getElem?_eq_some_iff.1 hj).1]; exact hj
  have hf0 : ∀ {v x}, RepA M v x → (frp0 k row v).sc0 k = true → RepA M' (frp0 k row v) x := by
    intro v x h hs
    rcases frp0_cases k row v with ⟨off, e1, h2, e2⟩ | e
    · rw [e2]
      subst e1
      exact hpt off x h2 h
    · rw [e] at hs ⊢
      exact hkeep0 h hs
  have hl0 : ∀ {l : List AV} {xs : List Value}, All2 (RepA M) l xs → (l.map (frp0 k row)).all (AV.sc0 k) = true → All2 (RepA M') (l.map (frp0 k row)) xs := by
    intro l
    induction l with
    | nil => intro xs h _; cases h; exact .nil
    | cons v l ih =>
      intro xs h hs
      cases h with
      | cons h1 h2 =>
        simp only [List.map_cons, List.all_cons, Bool.and_eq_true] at hs
        exact .cons (hf0 h1 hs.1) (ih h2 hs.2)
  have hall : ∀ {v x}, RepA M v x → (frp k row v).sc1 k = true → RepA M' (frp k row v) x := by
    intro v x h hs
    rcases frp_cases k row v with ⟨l, e1, e2⟩ | ⟨l, e1, e2⟩ | ⟨f, l, e1, e2⟩ | e
    · rw [e2] at hs ⊢
      subst e1
      cases h with
      | agg _ xs h => exact .agg _ xs (hl0 h hs)
    · rw [e2] at hs ⊢
      subst e1
      cases h with
      | tup _ xs h => exact .tup _ xs (hl0 h hs)
    · rw [e2] at hs ⊢
      subst e1
      cases h with
      | fn _ _ xs h => exact .fn f _ xs (hl0 h hs)
    · rw [e] at hs ⊢
      rcases frp0_cases k row v with ⟨off, e1, h2, e2⟩ | e
      · rw [e2]
        rw [e1] at h
        exact hpt off x h2 h
      · rw [e] at hs ⊢
        exact hkeep1 h hs
  refine ⟨hC.size, hC.defers, ?_, ?_, fun i j g hi hj => hC.inj i j g (Nat.lt_of_lt_of_le hi hlen) (Nat.lt_of_lt_of_le hj hlen), fun i g hi => hC.own i g (Nat.lt_of_lt_of_le hi hlen), hC.xlt, hC.old, hC.hos, hC.htape, hC.hout, hC.hsize, ?_⟩
  · intro t' v h
    obtain ⟨⟨u, hu, hv⟩, p, h1, h2⟩ := getG henv h
    obtain ⟨x, h3, h4⟩ := hC.env t' u hu
    refine ⟨x, h3, ?_⟩
    have := hsc p h1
    rw [h2, ← hv] at this
    rw [← hv, ← hM']
    exact hall (by rw [hM]; exact h4) this
  · intro id b' hb'
    have hid : id < k := by
      have := (List.getElem?_eq_some_iff.1 (show (hp.take k)[id]? = some b' from hb')).1
      simp at this; omega
    have hb0 : hp[id]? = some b' := by rw [← hget id hid]; exact hb'
    have ho := hC.blk id b' hb0
    have hs := hblk b' (List.mem_of_getElem? hb')
    refine ⟨ho.pos, ho.rows, ho.cell, ho.cap, ho.capm, ?_⟩
    rcases ho.mem with h1 | ⟨g', ys', sp', h1, h2, h3, h4⟩
    · exact .inl h1
    · refine .inr ⟨g', ys', sp', h1, h2, h3, h4.mono_mem fun v x hm _ h => ?_⟩
      rw [← hM']
      refine hkeep1 (by rw [hM]; exact h) ?_
      obtain ⟨r, hr, hv⟩ := List.mem_flatten.1 hm
      rw [List.all_eq_true] at hs
      have := hs r hr
      rw [List.all_eq_true] at this
      exact this v hv
  · intro i b0 hb0
    obtain ⟨b, h1, h2⟩ := hC.lent i b0 hb0
    have : i < C.hp0.length := (List.getElem?_eq_some_iff.1 hb0).1
    exact ⟨b, by show (hp.take k)[i]? = _; rw [hget i (by omega)]; exact h1, h2⟩
theorem AL.pin {l : List Oper} {Q : Exit → St → Prop} (k : Nat) {env1 env : List (Nat × AV)} {hp : List Blk} {b : Blk} (row : List IV) {h1 : List Blk} (hb : nth hp k = some b) (hr : b.rows = [row.map .imm]) (henv : EnvG env (frp k row) env1) (hsc : env1.all (fun p => p.2.sc1 k) = true) (e1 : hp.take k = h1) (hblk : h1.all (fun b => b.rows.all fun r => r.all (AV.sc1 k)) = true) (hl : C.hp0.length ≤ k) {rest : List Oper}
    (h : AL C l Q rest ⟨env1, h1⟩) : AL C l Q rest ⟨env, hp⟩ := by
  subst e1
  exact AL.weak (Le.pinE k hb hr henv hsc hblk hl) h
theorem AWM.pin {r : Option Nat} {c : Code} {Q : Exit → St → Prop} (k : Nat) {env1 env : List (Nat × AV)} {hp : List Blk} {b : Blk} (row : List IV) {h1 : List Blk} (hb : nth hp k = some b) (hr : b.rows = [row.map .imm]) (henv : EnvG env (frp k row) env1) (hsc : env1.all (fun p => p.2.sc1 k) = true) (e1 : hp.take k = h1) (hblk : h1.all (fun b => b.rows.all fun r => r.all (AV.sc1 k)) = true) (hl : C.hp0.length ≤ k)
    (h : AWM r C c Q ⟨env1, h1⟩) : AWM r C c Q ⟨env, hp⟩ := by
  subst e1
  exact AWM.weak (Le.pinE k hb hr henv hsc hblk hl) h
theorem AWM.reserve {r : Option Nat} {c : Code} {Q : Exit → St → Prop} {s : St} (ty sz : Nat) (hpos : Nat.blt 0 sz = true) (h : AWM r C c Q ⟨s.env, s.hp ++ [⟨ty, sz, []⟩]⟩) : AWM r C c Q s :=
  AWM.weak (fun γ κ a W hC => let ⟨γ', κ', h1, _⟩ := hC.reserve ty sz (Nat.le_of_ble_eq_true hpos); ⟨γ', κ', h1⟩) h
end
end Go.Proofs.YtjjdabihnmilgaaGreat.A
