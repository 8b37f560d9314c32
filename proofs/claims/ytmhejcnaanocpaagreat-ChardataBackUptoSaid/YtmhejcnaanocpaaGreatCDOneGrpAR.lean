/- The abstract walk, part Ze: an own block whose rows are others behind a step that was shown on the machine itself; a part of an own block read as values. -/
import Derived.Test.YtmhejcnaanocpaaGreatCDOneGrpAQ
import Derived.Shelf.Spec.SlicesInsertGrow
import Derived.Test.YtmhejcnaanocpaaGreatProg
import Derived.Test.YtmhejcnaanocpaaGreatCDOneGrpAO
namespace Go.Proofs.YtmhejcnaanocpaaGreat.A
open Go.RowKit
set_option linter.unusedVariables false
set_option linter.unusedSimpArgs false
section
variable {C : Cx} {s : St} {γ : Nat → Option Nat} {κ : Nat → Nat} {a : Act} {W : World}
/-- An own block lies where it lay, or in new memory, and has other rows, as many as before or more. -/
theorem Conc.swap {id : Nat} {b : Blk} (hC : Conc C s γ κ a W) (hb : s.hp[id]? = some b) {g' k' : Nat} {rows' : List (List AV)} {ys' sp' : List Value} {W' : World}
    (hW : W'.heap[g']? = some (.cells (ys' ++ sp').toArray b.ty (0, 0))) (hfar : ∀ x, x ≠ g' → x < W.heap.size → W'.heap[x]? = W.heap[x]?) (hsize : W.heap.size ≤ W'.heap.size)
    (hos : W'.os = W.os) (htape : W'.tape = W.tape) (hout : W'.output = W.output) (hg : γ id = some g' ∨ W.heap.size ≤ g')
    (hsame : b.rows.length = rows'.length → γ id = some g' ∧ κ id = k') (hrl : b.rows.length ≤ rows'.length) (hr : ∀ r ∈ rows', r.length = b.sz) (hc : ∀ c ∈ rows'.flatten, c.cell = true)
    (hcap : rows'.length ≤ k') (hcapm : k' ≤ maxLen) (hlen : (ys' ++ sp').length = k' * b.sz) (hrep : All2 (RepA (s.mm C γ κ W)) rows'.flatten ys') :
    ∃ γ' κ', Conc C ⟨s.env, s.hp.set id ⟨b.ty, b.sz, rows'⟩⟩ γ' κ' a W' ∧ γ' id = some g' ∧ κ' id = k' := by
  have hid : id < s.hp.length := (List.getElem?_eq_some_iff.1 hb).1
  have hB := hC.blk id b hb
  let γ' : Nat → Option Nat := fun i => if i = id then some g' else γ i
  let κ' : Nat → Nat := fun i => if i = id then k' else κ i
  have hγ : ∀ i, i ≠ id → γ' i = γ i := fun i hi => by simp [γ', hi]
  have hκ : ∀ i, i ≠ id → κ' i = κ i := fun i hi => by simp [κ', hi]
  have hγn : γ' id = some g' := by simp [γ']
  have hκn : κ' id = k' := by simp [κ']
  let b' : Blk := ⟨b.ty, b.sz, rows'⟩
  have hgl : ∀ i g, i < s.hp.length → γ i = some g → g < W.heap.size := by
    intro i g hi hg
    obtain ⟨bb, hbb⟩ : ∃ bb, s.hp[i]? = some bb := ⟨_, List.getElem?_eq_getElem hi⟩
    obtain ⟨ys, sp, h2, _⟩ := hC.mem hbb hg
    exact blk_lt h2
  -- other blocks lie elsewhere
  have hother : ∀ i g, i < s.hp.length → i ≠ id → γ i = some g → g ≠ g' := by
    intro i g hi hne hgi e
    subst e
    rcases hg with h | h
    · exact hne (hC.inj i id g hi hid hgi h)
    · have := hgl i g hi hgi; omega
  have hnX : ¬ C.X g' ∧ (C.w0.heap.size ≤ g' ∨ C.may g') := by
    rcases hg with h | h
    · exact hC.own id g' hid h
    · refine ⟨fun hX => ?_, .inl (Nat.le_trans hC.hsize h)⟩
      have := hC.xlt _ hX
      have := hC.hsize
      omega
  have hKeep : Keep (s.mm C γ κ W) (St.mm ⟨s.env, s.hp.set id b'⟩ C γ' κ' W') := by
    refine ⟨fun x hx ⟨o, ho⟩ => ?_, fun id' bb hbb => ?_⟩
    · have hxs : x < W.heap.size := blk_lt (W := W) ho
      have hxg : x ≠ g' := by
        intro e
        subst e
        rcases hg with h | h
        · exact hx (.inr ⟨id, hid, h⟩)
        · omega
      refine ⟨hfar x hxg hxs, ?_⟩
      show ¬ nset C.X γ' (s.hp.set id b').length x
      rintro (h | ⟨i, hi, hgi⟩)
      · exact hx (.inl h)
      · by_cases e : i = id
        · subst e; rw [hγn] at hgi; cases hgi; exact hxg rfl
        · rw [hγ i e] at hgi
          exact hx (.inr ⟨i, by simpa using hi, hgi⟩)
    · show ∃ b'', (s.hp.set id b')[id']? = some b'' ∧ _
      have hbb' : s.hp[id']? = some bb := hbb
      by_cases e : id = id'
      · subst e
        rw [hb] at hbb'; cases hbb'
        refine ⟨b', by rw [List.getElem?_set_self hid], rfl, hrl, fun h => ?_⟩
        obtain ⟨h1, h2⟩ := hsame h
        exact ⟨hγn.trans h1.symm, hκn.trans h2.symm⟩
      · exact ⟨bb, by rw [List.getElem?_set_ne e]; exact hbb', rfl, Nat.le_refl _, fun _ => ⟨hγ id' fun h => e h.symm, hκ id' fun h => e h.symm⟩⟩
  refine ⟨γ', κ', ⟨hC.size, hC.defers, ?_, ?_, ?_, ?_, hC.xlt, ?_, hos.trans hC.hos, htape.trans hC.htape, hout.trans hC.hout, Nat.le_trans hC.hsize hsize, hC.lent.keep hKeep⟩, hγn, hκn⟩
  · intro t v h
    obtain ⟨x, h1, h2⟩ := hC.env t v h
    exact ⟨x, h1, h2.keep hKeep⟩
  · intro id' bb hbb
    have hbb' : (s.hp.set id b')[id']? = some bb := hbb
    by_cases e : id = id'
    · subst e
      rw [List.getElem?_set_self hid] at hbb'
      obtain rfl := Option.some.inj hbb'
      refine ⟨hB.pos, hr, hc, ?_, ?_, .inr ⟨g', ys', sp', hγn, hW, ?_, hrep.mono fun _ _ h => h.keep hKeep⟩⟩
      · show rows'.length ≤ κ' id
        rw [hκn]; exact hcap
      · show κ' id ≤ _
        rw [hκn]; exact hcapm
      · show _ = κ' id * _
        rw [hκn]; exact hlen
    · rw [List.getElem?_set_ne e] at hbb'
      have hi' := (List.getElem?_eq_some_iff.1 hbb').1
      have ho := hC.blk id' bb hbb'
      refine ⟨ho.pos, ho.rows, ho.cell, ?_, ?_, ?_⟩
      · show _ ≤ κ' id'
        rw [hκ id' fun h => e h.symm]; exact ho.cap
      · show κ' id' ≤ _
        rw [hκ id' fun h => e h.symm]; exact ho.capm
      rcases ho.mem with ⟨h1, h2, h3⟩ | ⟨g2, ys2, sp2, h1, h2, h3, h4⟩
      · exact .inl ⟨by show γ' id' = none; rw [hγ id' fun h => e h.symm]; exact h1, h2, by show κ' id' = 0; rw [hκ id' fun h => e h.symm]; exact h3⟩
      · refine .inr ⟨g2, ys2, sp2, by show γ' id' = _; rw [hγ id' fun h => e h.symm]; exact h1, ?_, by show _ = κ' id' * _; rw [hκ id' fun h => e h.symm]; exact h3, h4.mono fun _ _ h => h.keep hKeep⟩
        exact (hfar g2 (hother id' g2 hi' (fun h => e h.symm) h1) (blk_lt (W := W) h2)).trans h2
  · intro i j g hi hj h1 h2
    have hi' : i < s.hp.length := by simpa using hi
    have hj' : j < s.hp.length := by simpa using hj
    by_cases e1 : i = id <;> by_cases e2 : j = id
    · rw [e1, e2]
    · rw [e1, hγn] at h1; cases h1
      rw [hγ j e2] at h2
      exact absurd rfl (hother j _ hj' e2 h2)
    · rw [e2, hγn] at h2; cases h2
      rw [hγ i e1] at h1
      exact absurd rfl (hother i _ hi' e1 h1)
    · rw [hγ i e1] at h1; rw [hγ j e2] at h2
      exact hC.inj i j g hi' hj' h1 h2
  · intro i g hi hgi
    have hi' : i < s.hp.length := by simpa using hi
    by_cases e1 : i = id
    · rw [e1, hγn] at hgi; cases hgi; exact hnX
    · rw [hγ i e1] at hgi
      exact hC.own i g hi' hgi
  · intro x hx hl
    have hxs : x < W.heap.size := Nat.lt_of_lt_of_le hx hC.hsize
    have hne : x ≠ g' := by
      intro e
      rcases hnX.2 with h | h
      · omega
      · exact hl (by rw [e]; exact h)
    exact (hfar x hne hxs).trans (hC.old x hx hl)
theorem all2_im {M : Mm} {l : List (List IV)} : ∀ {xs : List Value}, All2 (RepA M) (l.map (·.map .imm)).flatten xs → All2 (RepI M.W M.N) l.flatten xs := by
  intro xs h
  have e : (l.map (·.map AV.imm)).flatten = l.flatten.map AV.imm := by simp [List.map_flatten]
  rw [e] at h
  clear e
  generalize l.flatten = m at h
  induction m generalizing xs with
  | nil => cases h; exact .nil
  | cons v m ih =>
    cases h with
    | cons h1 h2 => cases h1 with | imm _ _ h1 => exact .cons h1 (ih h2)
theorem flat_take {α : Type} {rows : List (List α)} {sz : Nat} (hr : ∀ r ∈ rows, r.length = sz) : ∀ n, (rows.take n).flatten = rows.flatten.take (n * sz) := by
  induction rows with
  | nil => intro n; simp
  | cons r l ih =>
    intro n
    cases n with
    | zero => simp
    | succ n =>
      have h1 := hr r (by simp)
      rw [List.take_succ_cons, List.flatten_cons, List.flatten_cons, ih fun r h => hr r (by simp [h]), Nat.succ_mul, List.take_append, h1, show List.take (n * sz + sz) r = r from List.take_of_length_le (by omega), Nat.add_sub_cancel]
theorem flat_drop {α : Type} {rows : List (List α)} {sz : Nat} (hr : ∀ r ∈ rows, r.length = sz) : ∀ n, (rows.drop n).flatten = rows.flatten.drop (n * sz) := by
  induction rows with
  | nil => intro n; simp
  | cons r l ih =>
    intro n
    cases n with
    | zero => simp
    | succ n =>
      have h1 := hr r (by simp)
      rw [List.drop_succ_cons, List.flatten_cons, ih fun r h => hr r (by simp [h]), Nat.succ_mul, List.drop_append, h1, show List.drop (n * sz + sz) r = [] from List.drop_eq_nil_of_le (by omega), Nat.add_sub_cancel, List.nil_append]
/-- A part of an own list, given up. -/
theorem Fz.sub {id ver off n : Nat} {b : Blk} (hb : nth s.hp id = some b) (hver : ver = b.rows.length) {all : List (List IV)} (hr : b.rows = all.map (·.map .imm)) : Fz C s (.sub id ver off n) (.imm (.sl ((all.drop off).take n))) := by
  intro γ κ a W x hC hx
  rw [nth_eq] at hb
  have hB := hC.blk id b hb
  cases hx with
  | sub _ _ _ _ b' A c hb' hv hx hc =>
    have hb'' : s.hp[id]? = some b' := hb'
    rw [hb] at hb''
    cases hb''
    obtain ⟨h1, h2⟩ := hx hver
    rcases Nat.eq_zero_or_pos n with h0 | h0
    · subst h0
      exact .imm _ _ (.nil _ _)
    · obtain ⟨g, hg, rfl⟩ := h2 h0
      obtain ⟨ys, sp, hmem, hlen, hys⟩ := hC.mem hb hg
      have hal : all.length = ver := by rw [hver, hr, List.length_map]
      have hrl : ∀ r ∈ all, r.length = b.sz := by
        intro r hr'
        have := hB.rows (r.map .imm) (by rw [hr]; exact List.mem_map.2 ⟨r, hr', rfl⟩)
        simpa using this
      have hl : ((all.drop off).take n).length = n := by rw [List.length_take, List.length_drop]; omega
      have hy := all2_im (by rw [hr] at hys; exact hys)
      have hyl : ys.length = all.length * b.sz := by rw [← hy.length, flat_len hrl]
      refine .imm _ _ (.sl _ ⟨g, off * b.sz, none⟩ n _ b.sz ((ys.drop (off * b.sz)).take (n * b.sz)) (fun e => by rw [e] at hl; simp at hl; omega) hB.pos hl.symm hc ?_ (fun r h => hrl r (List.mem_of_mem_drop (List.mem_of_mem_take h))) ?_ ?_)
      · have hid : id < s.hp.length := (List.getElem?_eq_some_iff.1 hb).1
        exact (hC.own id g hid hg).1
      · intro j y hj
        have e : (⟨g, off * b.sz, none⟩ : Addr).add j = ⟨g, off * b.sz + j, none⟩ := by unfold Addr.add; split <;> simp_all
        show W.cell? _ = _
        rw [e, blk_cell hmem]
        simp only [List.getElem?_toArray]
        rw [List.getElem?_take] at hj
        split at hj
        · rw [List.getElem?_drop] at hj
          rw [List.getElem?_append_left (List.getElem?_eq_some_iff.1 hj).1]; exact hj
        · cases hj
      · rw [flat_take (fun r h => hrl r (List.mem_of_mem_drop h)), flat_drop hrl]
        refine ((hy.drop _).take _).mono fun _ _ h => h.keep fun b hb _ => ⟨rfl, fun hx => hb (.inl hx)⟩
end
end Go.Proofs.YtmhejcnaanocpaaGreat.A
namespace Go.Proofs.YtmhejcnaanocpaaGreat.A
open Go.RowKit Go.Lib
set_option linter.unusedVariables false
set_option linter.unusedSimpArgs false
theorem cell_shape {w : World} {a : Addr} {v : Value} (h : w.cell? a = some v) : ∃ t k, w.shape? a.block = some (t, k) ∧ k ≠ 0 ∧ a.spot = none := by
  unfold World.cell? at h
  split at h
  · rename_i c e f hb
    split at h
    · cases h
    · rename_i hs
      refine ⟨e, c.size, ?_, ?_, ?_⟩
      · unfold World.shape?; rw [hb]
      · intro e0
        rw [Array.getElem?_eq_none (by omega)] at h
        cases h
      · cases hq : a.spot with
        | none => rfl
        | some x => rw [hq] at hs; simp at hs
  · cases h
theorem overlaps_apart {P : Program} (w : World) (tS tR e : TypeId) (ht : P.underlying tS = some (.slice e)) (size : Nat) (hz : ∀ w, (Go.sizeOf e).run P w = .ok size w)
    (a b : Addr) (la ca lb cb : Nat) (hne : a.block ≠ b.block) (tA tB : TypeId) (kA kB : Nat)
    (hsa : w.shape? a.block = some (tA, kA)) (hsb : w.shape? b.block = some (tB, kB)) (hkA : kA ≠ 0)
    (hfb : w.frozen? b = false) (hfe : w.frozen? { block := b.block, off := kB } = false) :
    (Extern.SlicesOverlaps.overlaps #[tS, tS] #[tR] #[.slice (some b) lb cb, .slice (some a) la ca]).run P w = .ok (.bool false) w ∧ (Extern.SlicesOverlaps.overlaps #[tS, tS] #[tR] #[.slice (some a) la ca, .slice (some b) lb cb]).run P w = .ok (.bool false) w := by
  have hnb : (a.block != b.block) = true := by simpa using hne
  have hnb' : (a.block == b.block) = false := by simpa using hne
  have hnc : (b.block != a.block) = true := by simpa using (Ne.symm hne)
  have hnc' : (b.block == a.block) = false := by simpa using (Ne.symm hne)
  constructor
  · change Sem.run P (α := Value) (do
      let some t := (#[tS, tS] : Array TypeId)[0]? | stuck "slices.overlaps: no parameter types"
      let .slice elem ← underlying t | stuck "slices.overlaps: slice type expected"
      let size ← sizeOf elem
      match (some b : Option Addr), (some a : Option Addr) with
      | some a, some b =>
        if lb = 0 ∨ la = 0 ∨ size = 0 then pure (Value.bool false)
        else if a.block != b.block && (← frozen a) && (← frozen b) then unsupported .addressObserved
        else do
          if a.block != b.block then do
            noView a; noView b
            if ← mayBeOne a b then return Value.bool ((← choose (.extern "sameAddr.stringBytes" 2)) == 1)
          pure (Value.bool (a.block == b.block && a.off < b.off + la * size && b.off < a.off + lb * size))
      | _, _ => pure (Value.bool false)) w = _
    by_cases h0 : lb = 0 ∨ la = 0 ∨ size = 0
    · simp [run_underlying ht, hz, h0]
    · cases kA with
      | zero => exact absurd rfl hkA
      | succ kA =>
        cases hfa : w.frozen? a <;> cases hga : w.frozen? { block := a.block, off := kA + 1 } <;>
        simp [run_underlying ht, hz, h0, hnb, hnb', hnc, hnc', frozen, noView, viewAt, mayBeOne, stringish, shape, Sem.run, hsa, hsb, hfb, hfe, hfa, hga]
  · change Sem.run P (α := Value) (do
      let some t := (#[tS, tS] : Array TypeId)[0]? | stuck "slices.overlaps: no parameter types"
      let .slice elem ← underlying t | stuck "slices.overlaps: slice type expected"
      let size ← sizeOf elem
      match (some a : Option Addr), (some b : Option Addr) with
      | some a, some b =>
        if la = 0 ∨ lb = 0 ∨ size = 0 then pure (Value.bool false)
        else if a.block != b.block && (← frozen a) && (← frozen b) then unsupported .addressObserved
        else do
          if a.block != b.block then do
            noView a; noView b
            if ← mayBeOne a b then return Value.bool ((← choose (.extern "sameAddr.stringBytes" 2)) == 1)
          pure (Value.bool (a.block == b.block && a.off < b.off + lb * size && b.off < a.off + la * size))
      | _, _ => pure (Value.bool false)) w = _
    by_cases h0 : la = 0 ∨ lb = 0 ∨ size = 0
    · simp [run_underlying ht, hz, h0]
    · cases kA with
      | zero => exact absurd rfl hkA
      | succ kA =>
        cases hfa : w.frozen? a <;> cases hga : w.frozen? { block := a.block, off := kA + 1 } <;>
        simp [run_underlying ht, hz, h0, hnb, hnb', hnc, hnc', frozen, noView, viewAt, mayBeOne, stringish, shape, Sem.run, hsa, hsb, hfb, hfe, hfa, hga]
/-- a row of one number. -/
def cK (K : IntKind) (x : Int) : List AV := [.imm (.int K x)]
theorem cK_row {K : IntKind} (l : List Int) : ∀ r ∈ l.map (cK K), r.length = 1 := by
  intro r hr
  obtain ⟨x, _, rfl⟩ := List.mem_map.1 hr
  rfl
theorem cK_cell {K : IntKind} (l : List Int) : ∀ c ∈ (l.map (cK K)).flatten, c.cell = true := by
  intro c hc
  obtain ⟨r, hr, hc⟩ := List.mem_flatten.1 hc
  obtain ⟨x, _, rfl⟩ := List.mem_map.1 hr
  simp [cK] at hc
  subst hc; rfl
theorem cK_rep {M : Mm} (K : IntKind) : ∀ l : List Int, All2 (RepA M) (l.map (cK K)).flatten (l.map (Value.int K))
  | [] => .nil
  | x :: l => .cons (.imm _ _ (.int _ _)) (cK_rep K l)
theorem cK_vals {M : Mm} {K : IntKind} : ∀ {l : List Int} {ys : List Value}, All2 (RepA M) (l.map (cK K)).flatten ys → ys = l.map (Value.int K)
  | [], ys, h => by cases h; rfl
  | x :: l, ys, h => by
    cases h with
    | cons h1 h2 =>
      cases h1 with
      | imm _ _ h1 =>
        rw [h1.int_inv, cK_vals h2]; rfl
theorem splice2 {α : Type} (ys sp vs : List α) (i m : Nat) (hi : i ≤ ys.length) (hm : vs.length = m) (hr : m ≤ sp.length) :
    (((ys ++ sp).take (i + m) ++ ys.drop i ++ (ys ++ sp).drop (i + m + (ys.drop i).length)).take i ++ vs ++ ((ys ++ sp).take (i + m) ++ ys.drop i ++ (ys ++ sp).drop (i + m + (ys.drop i).length)).drop (i + m)) = (ys.take i ++ vs ++ ys.drop i) ++ sp.drop m := by
  have hl : ((ys ++ sp).take (i + m)).length = i + m := by simp only [List.length_take, List.length_append]; omega
  rw [List.append_assoc ((ys ++ sp).take (i + m)), List.take_append_of_le_length (by omega), List.take_take, Nat.min_eq_left (by omega), List.take_append_of_le_length hi, List.drop_left' hl, List.length_drop, show i + m + (ys.length - i) = ys.length + m by omega, List.drop_length_add_append]
  simp [List.append_assoc]
theorem splice3 {α : Type} (ys zs vs : List α) (i m : Nat) (hi : i ≤ ys.length) (hm : vs.length = m) (hr : ys.length + m ≤ i + zs.length) :
    ((((ys.take i ++ zs).take i ++ vs ++ (ys.take i ++ zs).drop (i + m)).take (i + m)) ++ ys.drop i ++ ((ys.take i ++ zs).take i ++ vs ++ (ys.take i ++ zs).drop (i + m)).drop (i + m + (ys.drop i).length)) = (ys.take i ++ vs ++ ys.drop i) ++ zs.drop (m + (ys.length - i)) := by
  have hl : (ys.take i).length = i := by simp only [List.length_take]; omega
  have hl2 : (ys.take i ++ vs).length = i + m := by simp only [List.length_append, hl, hm]
  rw [List.take_left' hl, List.take_left' hl2, List.drop_append, hl2]
  rw [show (ys.take i ++ vs).drop (i + m + (ys.drop i).length) = [] from List.drop_eq_nil_of_le (by rw [hl2]; omega), List.nil_append]
  rw [show (ys.take i ++ zs).drop (i + m) = zs.drop m from by rw [show i + m = (ys.take i).length + m by rw [hl], List.drop_length_add_append], List.drop_drop, List.length_drop]
  congr 2
  omega
theorem splice4 {α : Type} (ys sp vs rp : List α) (i m : Nat) (hi : i ≤ ys.length) (hm : vs.length = m) :
    (((ys ++ sp).take i ++ vs ++ (ys ++ sp).drop (i + m)).take (i + m) ++ rp ++ ((ys ++ sp).take i ++ vs ++ (ys ++ sp).drop (i + m)).drop (i + m + rp.length)) = (ys.take i ++ vs ++ rp) ++ (ys ++ sp).drop (i + m + rp.length) := by
  have hl : ((ys ++ sp).take i).length = i := by simp only [List.length_take, List.length_append]; omega
  have hl2 : ((ys ++ sp).take i ++ vs).length = i + m := by simp only [List.length_append, hl, hm]
  rw [List.take_left' hl2]
  rw [show ((ys ++ sp).take i ++ vs ++ (ys ++ sp).drop (i + m)).drop (i + m + rp.length) = ((ys ++ sp).drop (i + m)).drop rp.length from by
    rw [show i + m + rp.length = ((ys ++ sp).take i ++ vs).length + rp.length by rw [hl2], List.drop_length_add_append]]
  rw [List.drop_drop, List.take_append_of_le_length hi]
/-- a list with others in the place of its end, and zeros where it had more. -/
def repL (l v : List Int) (i : Nat) : List Int := l.take i ++ v ++ List.replicate (l.length - (i + v.length)) 0
end Go.Proofs.YtmhejcnaanocpaaGreat.A
namespace Go.Proofs.YtmhejcnaanocpaaGreat.A
open Go.Shelf Go.RowKit Go.Lib
set_option linter.unusedVariables false
set_option linter.unusedSimpArgs false
set_option maxHeartbeats 4000000 in
set_option maxRecDepth 100000 in
theorem nInsI_shift (b n c i vb voff m vc : Nat) (cs vs : List Value) (w : World) (hi : i < n) (hm : 0 < m) (hroom : n + m ≤ c) (hc63 : c ≤ 9223372036854775807) (hvb : vb ≠ b)
    (hcl : cs.length = n) (hvl : vs.length = m)
    (hcs : ∀ j v, cs[j]? = some v → w.cell? ⟨b, j, none⟩ = some v) (hsp : ∀ j, j < n + m → (w.cell? ⟨b, j, none⟩).isSome = true) (hfz : ∀ j, w.frozen? ⟨b, j, none⟩ = false)
    (hvs : ∀ j v, vs[j]? = some v → w.cell? ⟨vb, voff + j, none⟩ = some v) (h1c : ∀ v ∈ cs, v.oneCell' = true) (h1v : ∀ v ∈ vs, v.oneCell' = true) :
    Calls Tryz.prog 150 #[.slice (some ⟨b, 0, none⟩) n c, .int .i64 i, .slice (some ⟨vb, voff, none⟩) m vc] w fun e w' =>
      e = .returned (.slice (some ⟨b, 0, none⟩) (n + m) c) ∧ w' = (w.drew.setCells b (i + m) (cs.drop i)).setCells b i vs := by
  have mixed : Tryz.prog.follows .mixedOrders = true := by kernel_rfl
  have tS : Tryz.prog.underlying 41 = some (.slice 3) := Tryz.underlying41
  have tI : Tryz.prog.underlying 3 = some (.int .i64) := Tryz.underlying3
  have iE : (Tryz.prog.info? 3).map (fun i => (i.zero, i.size, i.bytes)) = some (some (Value.int .i64 0), 1, 8) := by kernel_rfl
  obtain ⟨i0, hi0, hz0, hzs, hzb⟩ := info_parts iE
  have hsz : (Tryz.prog.info? 3).map (·.size) = some 1 := by rw [hi0]; simp [hzs]
  have hz1 : ¬ ((m : Int) = 0) := by omega
  have hz2 : ¬ ((i : Int) = (n : Int)) := by omega
  have hov : ∀ lb cb, (callFunc 178 #[.slice (some ⟨vb, voff, none⟩) m vc, .slice (some ⟨b, i + m, none⟩) lb cb]).run Tryz.prog w = .ok (.value (.bool false)) w := fun lb cb => by
    obtain ⟨tA, kA, hsa, hkA, _⟩ := cell_shape (hvs 0 _ (List.getElem?_eq_getElem (by omega)))
    obtain ⟨y, hy⟩ := Option.isSome_iff_exists.1 (hsp 0 (by omega))
    obtain ⟨tB, kB, hsb, _⟩ := cell_shape hy
    rw [run_callFunc_extern Tryz.func178 (by kernel_rfl) (by kernel_rfl) (by kernel_rfl) (e := Extern.SlicesOverlaps.overlaps #[41, 41] #[4]) (by kernel_rfl),
      (overlaps_apart w 41 4 3 Tryz.underlying41 1 Tryz.sizeOf3 ⟨vb, voff, none⟩ ⟨b, i + m, none⟩ m vc lb cb hvb tA tB kA kB hsa hsb hkA (hfz _) (hfz _)).2]
    rfl
  have hdl : (cs.drop i).length = n - i := by rw [List.length_drop, hcl]
  have hw1 : IntKind.i64.wrap ((i : Int) + (m : Int)) = (i : Int) + (m : Int) := by rw [IntKind.wrap_i64]; omega
  have hb1 : (0 : Int) ≤ (i : Int) + (m : Int) := by omega
  have hin : i ≤ n := by omega
  have htn : ((i : Int) + (m : Int)).toNat = i + m := by omega
  have hb2 : ¬ (c = i + m) := by omega
  have hb3 : (i : Int) ≤ (n : Int) + (m : Int) := by omega
  have hb4 : ¬ (c = i) := by omega
  have hcp1 : ∀ ty dc sc, (Builtin.copy_ #[41, 41] ty #[.slice (some ⟨b, i + m, none⟩) (n + m - (i + m)) dc, .slice (some ⟨b, i, none⟩) (n + m - i) sc]).run Tryz.prog w.drew = .ok (goInt (cs.drop i).length) (w.drew.setCells b (i + m) (cs.drop i)) := fun ty dc sc =>
    run_copy_cells w.drew _ _ ty 3 b (i + m) (n + m - (i + m)) dc ⟨b, i, none⟩ (n + m - i) sc (cs.drop i) tS hsz (by rw [hdl]; simp only [Nat.min_def]; split <;> omega)
      (fun j v hj => by rw [Addr.add_lit]; exact hcs (i + j) v (by rwa [List.getElem?_drop] at hj))
      (fun j hj => hsp _ (by omega)) (fun j hj => hfz _) (fun v hv => h1c v (List.mem_of_mem_drop hv))
  obtain ⟨W1, hW1⟩ : ∃ W1, W1 = w.drew.setCells b (i + m) (cs.drop i) := ⟨_, rfl⟩
  have hsp1 : ∀ k, k < n + m → (W1.cell? ⟨b, k, none⟩).isSome = true := fun k hk => by
    rw [hW1]
    exact isSome_setCells b (cs.drop i) (i + m) w.drew (fun j hj => hsp _ (by omega)) _ (hsp k hk)
  have hcp2 : ∀ (W : World), (∀ x, W.cell? x = W1.cell? x) → (∀ x, W.frozen? x = W1.frozen? x) → ∀ ty dc, (Builtin.copy_ #[41, 41] ty #[.slice (some ⟨b, i, none⟩) (n + m - i) dc, .slice (some ⟨vb, voff, none⟩) m vc]).run Tryz.prog W = .ok (goInt vs.length) (W.setCells b i vs) := fun W hWc hWf ty dc =>
    run_copy_cells W _ _ ty 3 b i (n + m - i) dc ⟨vb, voff, none⟩ m vc vs tS hsz (by rw [hvl]; simp only [Nat.min_def]; split <;> omega)
      (fun j v hj => by
        rw [Addr.add_lit, hWc, hW1, World.cell?_setCells_out b _ _ _ _ (fun h _ => absurd h hvb)]
        exact hvs j v hj)
      (fun j hj => by rw [hWc]; exact hsp1 _ (by omega)) (fun j hj => by rw [hWf, hW1, World.frozen?_setCells]; exact hfz _) h1v
  rw [← hW1] at hcp1
  go_enter Tryz.func150, Tryz.ntmps150
  go_wp2_with (simp only [hov])
  go_region_law_o (refine step_copy_runI rfl _ _ 41 41 rfl _ _ (by simp [Act.eval, Act.put]) (by simp [Act.eval, Act.put]) (hcp1 _ _ _) ?_)
  go_wp2_with (at_builtin; refine wpList_copy_runI _ rfl _ _ 41 41 rfl _ _ rfl rfl (hcp2 _ (fun _ => rfl) (fun _ => rfl) _ _) ?_)
  go_ret
  first | exact ⟨rfl, rfl⟩ | exact ⟨rfl, by rw [hW1]⟩
set_option maxHeartbeats 4000000 in
set_option maxRecDepth 100000 in
theorem nInsI_grow (b n c i vb voff m vc : Nat) (cs vs : List Value) (w : World) (hi : i < n) (hm : 0 < m) (hnc : n ≤ c) (hroom : c < n + m) (hbig : (n + m) * 8 ≤ 140737488355328) (hbig2 : n + m ≤ 140737488355328)
    (hcl : cs.length = n) (hvl : vs.length = m)
    (hcs : ∀ j v, cs[j]? = some v → w.cell? ⟨b, j, none⟩ = some v)
    (hvs : ∀ j v, vs[j]? = some v → w.cell? ⟨vb, voff + j, none⟩ = some v) (h1c : ∀ v ∈ cs, v.oneCell' = true) (h1v : ∀ v ∈ vs, v.oneCell' = true) :
    Calls Tryz.prog 150 #[.slice (some ⟨b, 0, none⟩) n c, .int .i64 i, .slice (some ⟨vb, voff, none⟩) m vc] w fun e w' =>
      e = .returned (.slice (some ⟨w.heap.size, 0, none⟩) (n + m) (grownCap w (n + m) c 3)) ∧
      w' = (((w.alloc (.cells ((cs.take i).toArray ++ Builtin.zeroCells (Value.int .i64 0).cells (n + m - i) ++ Builtin.zeroCells (Value.int .i64 0).cells (grownCap w (n + m) c 3 - (n + m))) 3)).drew.setCells w.heap.size i vs).drew).setCells w.heap.size (i + m) (cs.drop i) := by
  have mixed : Tryz.prog.follows .mixedOrders = true := by kernel_rfl
  have tS : Tryz.prog.underlying 41 = some (.slice 3) := Tryz.underlying41
  have tI : Tryz.prog.underlying 3 = some (.int .i64) := Tryz.underlying3
  have iE : (Tryz.prog.info? 3).map (fun i => (i.zero, i.size, i.bytes)) = some (some (Value.int .i64 0), 1, 8) := by kernel_rfl
  obtain ⟨i0, hi0, hz0, hzs, hzb⟩ := info_parts iE
  have hsz : (Tryz.prog.info? 3).map (·.size) = some 1 := by rw [hi0]; simp [hzs]
  have hz1 : ¬ ((m : Int) = 0) := by omega
  have hz2 : ¬ ((i : Int) = (n : Int)) := by omega
  have hz3 : (c : Int) < (n : Int) + (m : Int) := by omega
  have hbw : b < w.heap.size := block_lt_of_cell (hcs 0 _ (List.getElem?_eq_getElem (by omega)))
  have hvw : vb < w.heap.size := block_lt_of_cell (hvs 0 _ (List.getElem?_eq_getElem (by omega)))
  have hkk : (n : Int) + (m : Int) - (i : Int) = ((n + m - i : Nat) : Int) := by omega
  have hik : i + (n + m - i) = n + m := by omega
  have hold : (Builtin.firstCells i0.size i (.slice (some ⟨b, 0, none⟩) i c)).run Tryz.prog w.drew = .ok (cs.take i).toArray w.drew := by
    rw [hzs]
    exact run_firstCells_some w.drew 1 i ⟨b, 0, none⟩ i c (cs.take i) (by rw [List.length_take]; omega) (fun j v hj => by
      rw [Addr.add_lit, Nat.zero_add]
      rw [List.getElem?_take] at hj
      split at hj
      · exact hcs j v hj
      · cases hj)
  have hrz : ∀ ty, (Builtin.append_ #[41, 3] ty #[.slice (some ⟨b, 0, none⟩) i c, .int .i64 ((n : Int) + (m : Int) - (i : Int))]).run Tryz.prog w =
      .ok (.slice (some ⟨w.heap.size, 0, none⟩) (n + m) (grownCap w (n + m) c 3)) (w.drew.alloc (.cells ((cs.take i).toArray ++ Builtin.zeroCells (Value.int .i64 0).cells (n + m - i) ++ Builtin.zeroCells (Value.int .i64 0).cells (grownCap w (n + m) c 3 - (n + m))) 3)) := fun ty => by
    have h := Lib.run_append_grow_zeros w 41 3 ty 3 i0 _ .i64 .i64 tS tI hi0 hz0 (some ⟨b, 0, none⟩) i c (cs.take i) hold (n + m - i) (by omega) (by omega) (by omega) (by omega) (by rw [hzb]; omega) (by rw [hzb, hik]; exact growslice_fits hroom hbig)
    rw [hik] at h
    rw [hkk]
    exact h
  obtain ⟨G, hG⟩ : ∃ G, G = grownCap w (n + m) c 3 := ⟨_, rfl⟩
  obtain ⟨ROW, hROW⟩ : ∃ ROW : Array Value, ROW = (cs.take i).toArray ++ Builtin.zeroCells (Value.int .i64 0).cells (n + m - i) ++ Builtin.zeroCells (Value.int .i64 0).cells (G - (n + m)) := ⟨_, rfl⟩
  rw [← hG] at hrz ⊢
  rw [← hROW] at hrz ⊢
  have hRl : n + m ≤ ROW.size := by
    rw [hROW]
    simp [Builtin.zeroCells, Value.cells]
    omega
  obtain ⟨W1, hW1⟩ : ∃ W1, W1 = w.drew.alloc (.cells ROW 3) := ⟨_, rfl⟩
  rw [← hW1] at hrz
  have hN : ∀ j, j < n + m → (W1.cell? ⟨w.heap.size, j, none⟩).isSome = true := fun j hj => by
    rw [hW1, World.cell?_alloc_at (w := w.drew) ROW _ w.heap.size j rfl, Array.getElem?_eq_getElem (by omega)]; rfl
  have hNf : ∀ j, W1.frozen? ⟨w.heap.size, j, none⟩ = false := fun j => by rw [hW1]; exact World.frozen?_alloc_at (w := w.drew) ROW _ w.heap.size j rfl
  have hOb : ∀ j v, w.cell? ⟨b, j, none⟩ = some v → W1.cell? ⟨b, j, none⟩ = some v := fun j v h => by rw [hW1, World.cell?_alloc_past (w := w.drew) _ b j hbw]; exact h
  have hOv : ∀ j v, w.cell? ⟨vb, j, none⟩ = some v → W1.cell? ⟨vb, j, none⟩ = some v := fun j v h => by rw [hW1, World.cell?_alloc_past (w := w.drew) _ vb j hvw]; exact h
  have hcpA : ∀ (W : World), (∀ x, W.cell? x = W1.cell? x) → (∀ x, W.frozen? x = W1.frozen? x) → ∀ ty dc, (Builtin.copy_ #[41, 41] ty #[.slice (some ⟨w.heap.size, i, none⟩) (n + m - i) dc, .slice (some ⟨vb, voff, none⟩) m vc]).run Tryz.prog W = .ok (goInt vs.length) (W.setCells w.heap.size i vs) := fun W hWc hWf ty dc =>
    run_copy_cells W _ _ ty 3 w.heap.size i (n + m - i) dc ⟨vb, voff, none⟩ m vc vs tS hsz (by rw [hvl]; simp only [Nat.min_def]; split <;> omega)
      (fun j v hj => by rw [Addr.add_lit, hWc]; exact hOv _ v (hvs j v hj))
      (fun j hj => by rw [hWc]; exact hN _ (by omega)) (fun j hj => by rw [hWf]; exact hNf _) h1v
  have hGn : n + m ≤ G := by rw [hG]; exact grownCap_ge w _ _ _
  have hG63 : G ≤ 9223372036854775807 := by
    have := grownCap_le_maxLen w (n + m) c 3 (by unfold maxLen; omega)
    rw [← hG] at this
    unfold maxLen at this
    omega
  have hGi : ¬ (G = i) := by omega
  have hGim : ¬ (G = i + m) := by omega
  have hci : ¬ (c = i) := by omega
  have hbN : b ≠ w.heap.size := by omega
  have hdl : (cs.drop i).length = n - i := by rw [List.length_drop, hcl]
  have hcpB : ∀ (W : World), (∀ x, W.cell? x = (W1.setCells w.heap.size i vs).cell? x) → (∀ x, W.frozen? x = (W1.setCells w.heap.size i vs).frozen? x) → ∀ ty dc sc, (Builtin.copy_ #[41, 41] ty #[.slice (some ⟨w.heap.size, i + m, none⟩) (n + m - (i + m)) dc, .slice (some ⟨b, i, none⟩) (n - i) sc]).run Tryz.prog W = .ok (goInt (cs.drop i).length) (W.setCells w.heap.size (i + m) (cs.drop i)) := fun W hWc hWf ty dc sc =>
    run_copy_cells W _ _ ty 3 w.heap.size (i + m) (n + m - (i + m)) dc ⟨b, i, none⟩ (n - i) sc (cs.drop i) tS hsz (by rw [hdl]; simp only [Nat.min_def]; split <;> omega)
      (fun j v hj => by
        rw [Addr.add_lit, hWc, World.cell?_setCells_out _ _ _ _ _ (fun h _ => absurd h hbN)]
        exact hOb _ v (hcs (i + j) v (by rwa [List.getElem?_drop] at hj)))
      (fun j hj => by rw [hWc]; exact isSome_setCells _ _ _ _ (fun t ht => hN _ (by omega)) _ (hN _ (by omega)))
      (fun j hj => by rw [hWf, World.frozen?_setCells]; exact hNf _) (fun v hv => h1c v (List.mem_of_mem_drop hv))
  subst hW1
  have hE1 : ∀ x, ((w.alloc (.cells ROW 3)).drew).cell? x = (w.drew.alloc (.cells ROW 3)).cell? x := fun x => rfl
  have hE2 : ∀ x, ((w.alloc (.cells ROW 3)).drew).frozen? x = (w.drew.alloc (.cells ROW 3)).frozen? x := fun x => rfl
  have hF1 : ∀ x, (((w.alloc (.cells ROW 3)).drew.setCells w.heap.size i vs).drew).cell? x = ((w.drew.alloc (.cells ROW 3)).setCells w.heap.size i vs).cell? x := fun x => rfl
  have hF2 : ∀ x, (((w.alloc (.cells ROW 3)).drew.setCells w.heap.size i vs).drew).frozen? x = ((w.drew.alloc (.cells ROW 3)).setCells w.heap.size i vs).frozen? x := fun x => rfl
  have hw1 : IntKind.i64.wrap ((i : Int) + (m : Int)) = (i : Int) + (m : Int) := by rw [IntKind.wrap_i64]; omega
  have hb1 : (0 : Int) ≤ (i : Int) + (m : Int) := by omega
  have hin : i ≤ n := by omega
  have htn : ((i : Int) + (m : Int)).toNat = i + m := by omega
  have hb3 : (i : Int) ≤ (n : Int) := by omega
  clear hkk hik hold hROW hG hRl
  go_enter Tryz.func150, Tryz.ntmps150
  go_wp2_with (first
    | (at_builtin; refine Lib.wpList_append_run _ rfl _ _ _ _ rfl _ _ rfl rfl _ _ (hrz _) ?_)
    | (at_builtin; refine wpList_copy_runI _ rfl _ _ 41 41 rfl _ _ rfl rfl (hcpA _ hE1 hE2 _ _) ?_)
    | (at_builtin; refine wpList_copy_runI _ rfl _ _ 41 41 rfl _ _ rfl rfl (hcpB _ (fun _ => rfl) (fun _ => rfl) _ _ _) ?_))
  go_region_law_o (refine step_copy_runI rfl _ _ 41 41 rfl (.slice (some ⟨w.heap.size, i + m, none⟩) (n + m - (i + m)) (G - (i + m))) (.slice (some ⟨b, i, none⟩) (n - i) (c - i)) (by simp [Act.eval, Act.put]) (by simp [Act.eval, Act.put]) (hcpB _ hF1 hF2 3 (G - (i + m)) (c - i)) ?_)
  go_wp2
  go_ret
  exact ⟨rfl, rfl⟩
/-- an own list of numbers, where it lies. -/
theorem ownI {C : Cx} {s : St} {γ : Nat → Option Nat} {κ : Nat → Nat} {a : Act} {W : World} (hC : Conc C s γ κ a W) {id : Nat} {l : List Int} (hb : s.hp[id]? = some ⟨3, 1, l.map (cK .i64)⟩) (h0 : l ≠ []) :
    ∃ g sp, γ id = some g ∧ W.heap[g]? = some (.cells (l.map (Value.int .i64) ++ sp).toArray 3 (0, 0)) ∧ l.length + sp.length = κ id := by
  have hB := hC.blk id _ hb
  rcases hB.mem with ⟨h1, h2, h3⟩ | ⟨g, ys, sp, h1, h2, h3, h4⟩
  · exact absurd (List.map_eq_nil_iff.1 h2) h0
  · have e := cK_vals h4
    subst e
    exact ⟨g, sp, h1, h2, by have h3' : _ = κ id * 1 := h3; simpa using h3'⟩
theorem coreI {C : Cx} {s : St} {γ : Nat → Option Nat} {κ : Nat → Nat} {a : Act} {W : World} (hC : Conc C s γ κ a W) {id : Nat} {l v : List Int} (hb : s.hp[id]? = some ⟨3, 1, l.map (cK .i64)⟩) {i : Nat} (hi : i < l.length) (hm : 0 < v.length) (hl : l.length ≤ 1000000000) (hv : v.length ≤ 1000000000)
    {vb voff vc : Nat} (hvb : γ id ≠ some vb) (hvs : ∀ j y, (v.map (Value.int .i64))[j]? = some y → W.cell? ⟨vb, voff + j, none⟩ = some y) :
    Calls Tryz.prog 150 #[.slice ((γ id).map fun g => ⟨g, 0, none⟩) l.length (κ id), .int .i64 i, .slice (some ⟨vb, voff, none⟩) v.length vc] W fun e W' => ∃ x γ' κ', e = .returned x ∧
      Conc C ⟨s.env, s.hp.set id ⟨3, 1, (l.take i ++ v ++ l.drop i).map (cK .i64)⟩⟩ γ' κ' a W' ∧ RepA (St.mm ⟨s.env, s.hp.set id ⟨3, 1, (l.take i ++ v ++ l.drop i).map (cK .i64)⟩⟩ C γ' κ' W') (.os id (l.length + v.length)) x := by
  have hid : id < s.hp.length := (List.getElem?_eq_some_iff.1 hb).1
  obtain ⟨g, sp, hg, hmem, hcap⟩ := ownI hC hb (fun e => by rw [e] at hi; simp at hi)
  have hmax := (hC.blk id _ hb).capm
  have hmax' : κ id ≤ maxLen := hmax
  have hc63 : κ id ≤ 9223372036854775807 := by unfold maxLen at hmax'; omega
  rw [hg]
  have hcell : ∀ j, W.cell? ⟨g, j, none⟩ = (l.map (Value.int .i64) ++ sp)[j]? := fun j => by rw [blk_cell hmem]; simp
  have hcs : ∀ j y, (l.map (Value.int .i64))[j]? = some y → W.cell? ⟨g, j, none⟩ = some y := fun j y hy => by
    rw [hcell, List.getElem?_append_left (List.getElem?_eq_some_iff.1 hy).1]; exact hy
  have h1c : ∀ u : List Int, ∀ y ∈ u.map (Value.int .i64), y.oneCell' = true := by
    intro u y hy
    obtain ⟨z, _, rfl⟩ := List.mem_map.1 hy
    rfl
  have hnew : ((l.take i ++ v ++ l.drop i).map (cK .i64)).length = l.length + v.length := by
    simp only [List.length_map, List.length_append, List.length_take, List.length_drop]; omega
  have hrep : All2 (RepA (s.mm C γ κ W)) ((l.take i ++ v ++ l.drop i).map (cK .i64)).flatten ((l.take i ++ v ++ l.drop i).map (Value.int .i64)) := cK_rep _ _
  have hos : ∀ {γ' : Nat → Option Nat} {κ' : Nat → Nat} {W' : World} {g' k' : Nat}, γ' id = some g' → κ' id = k' → RepA (St.mm ⟨s.env, s.hp.set id ⟨3, 1, (l.take i ++ v ++ l.drop i).map (cK .i64)⟩⟩ C γ' κ' W') (.os id (l.length + v.length)) (.slice (some ⟨g', 0, none⟩) (l.length + v.length) k') := by
    intro γ' κ' W' g' k' h1 h2
    refine .os id _ ⟨3, 1, (l.take i ++ v ++ l.drop i).map (cK .i64)⟩ _ _ _ (List.getElem?_set_self hid) (Nat.le_of_eq hnew.symm) fun _ => ⟨?_, rfl, h2.symm⟩
    show _ = (γ' id).map _
    rw [h1]; rfl
  by_cases hroom : l.length + v.length ≤ κ id
  · refine (nInsI_shift g l.length (κ id) i vb voff v.length vc _ _ W hi hm hroom hc63 (fun e => hvb (by rw [hg, e])) (by simp) (by simp) hcs (fun j hj => by rw [hcell, List.getElem?_eq_getElem (by simp only [List.length_append, List.length_map]; omega)]; rfl) (fun j => blk_frozen hmem j) hvs (h1c l) (h1c v)).mono ?_
    rintro e W' ⟨rfl, rfl⟩
    have h1 := setCells_at ((l.map (Value.int .i64)).drop i) (i + v.length) W.drew _ hmem (by simp only [List.length_append, List.length_map, List.length_drop]; omega)
    have h2 := setCells_at (v.map (Value.int .i64)) i _ _ h1 (by simp only [List.length_append, List.length_map, List.length_drop, List.length_take]; omega)
    rw [show (v.map (Value.int .i64)).length = v.length by simp] at h2
    rw [splice2 (l.map (Value.int .i64)) sp (v.map (Value.int .i64)) i v.length (by simp; omega) (by simp) (by omega)] at h2
    have e2 : (l.map (Value.int .i64)).take i ++ v.map (Value.int .i64) ++ (l.map (Value.int .i64)).drop i = (l.take i ++ v ++ l.drop i).map (Value.int .i64) := by simp
    rw [e2] at h2
    have hs1 := setCells_same g ((l.map (Value.int .i64)).drop i) (i + v.length) W.drew
    have hs2 := setCells_same g (v.map (Value.int .i64)) i (W.drew.setCells g (i + v.length) ((l.map (Value.int .i64)).drop i))
    obtain ⟨γ', κ', k1, k2, k3⟩ := hC.swap (b := ⟨3, 1, l.map (cK .i64)⟩) hb (g' := g) (k' := κ id) (rows' := (l.take i ++ v ++ l.drop i).map (cK .i64)) h2
      (fun x hx _ => (setCells_far g x hx _ _ _).trans (setCells_far g x hx _ _ _)) (by rw [hs2.2.2.2, hs1.2.2.2]; exact Nat.le_refl _) (hs2.1.trans hs1.1) (hs2.2.1.trans hs1.2.1) (hs2.2.2.1.trans hs1.2.2.1) (.inl hg)
      (fun _ => ⟨hg, rfl⟩) (by rw [hnew]; simp) (cK_row _) (cK_cell _) (by rw [hnew]; exact hroom) hmax' (by simp only [List.length_append, List.length_map, List.length_drop, List.length_take]; show _ = κ id * 1; omega) hrep
    exact ⟨_, γ', κ', rfl, k1, hos k2 k3⟩
  · refine (nInsI_grow g l.length (κ id) i vb voff v.length vc _ _ W hi hm (by omega) (by omega) (by omega) (by omega) (by simp) (by simp) hcs hvs (h1c l) (h1c v)).mono ?_
    rintro e W' ⟨rfl, rfl⟩
    have hge := grownCap_ge W (l.length + v.length) (κ id) 3
    have hcm := grownCap_le_maxLen W (l.length + v.length) (κ id) 3 (by unfold maxLen; omega)
    generalize grownCap W (l.length + v.length) (κ id) 3 = G at hge hcm ⊢
    have h0 : (((W.alloc (.cells (((l.map (Value.int .i64)).take i).toArray ++ Builtin.zeroCells (Value.int .i64 0).cells (l.length + v.length - i) ++ Builtin.zeroCells (Value.int .i64 0).cells (G - (l.length + v.length))) 3)).drew).heap[W.heap.size]?) = some (.cells (((l.map (Value.int .i64)).take i ++ (Builtin.zeroCells (Value.int .i64 0).cells (l.length + v.length - i) ++ Builtin.zeroCells (Value.int .i64 0).cells (G - (l.length + v.length))).toList).toArray) 3 (0, 0)) := by
      have := heap_alloc_new W (.cells (((l.map (Value.int .i64)).take i).toArray ++ Builtin.zeroCells (Value.int .i64 0).cells (l.length + v.length - i) ++ Builtin.zeroCells (Value.int .i64 0).cells (G - (l.length + v.length))) 3 (0, 0))
      refine Eq.trans this ?_
      congr 2
      apply Array.toList_inj.1; simp
    have hzl : (Builtin.zeroCells (Value.int .i64 0).cells (l.length + v.length - i) ++ Builtin.zeroCells (Value.int .i64 0).cells (G - (l.length + v.length))).toList.length = G - i := by
      simp [size_zeroCells, Value.cells]; omega
    generalize (Builtin.zeroCells (Value.int .i64 0).cells (l.length + v.length - i) ++ Builtin.zeroCells (Value.int .i64 0).cells (G - (l.length + v.length))).toList = zs at h0 hzl
    have hA1 : ∀ x, x < W.heap.size → ((W.alloc (.cells (((l.map (Value.int .i64)).take i).toArray ++ Builtin.zeroCells (Value.int .i64 0).cells (l.length + v.length - i) ++ Builtin.zeroCells (Value.int .i64 0).cells (G - (l.length + v.length))) 3)).drew).heap[x]? = W.heap[x]? := fun x hx => Below.heap_alloc W _ x hx
    have hA2 : ((W.alloc (.cells (((l.map (Value.int .i64)).take i).toArray ++ Builtin.zeroCells (Value.int .i64 0).cells (l.length + v.length - i) ++ Builtin.zeroCells (Value.int .i64 0).cells (G - (l.length + v.length))) 3)).drew).heap.size = W.heap.size + 1 := by
      show (W.heap.push _).size = _
      simp
    have hA3 : ((W.alloc (.cells (((l.map (Value.int .i64)).take i).toArray ++ Builtin.zeroCells (Value.int .i64 0).cells (l.length + v.length - i) ++ Builtin.zeroCells (Value.int .i64 0).cells (G - (l.length + v.length))) 3)).drew).os = W.os ∧ ((W.alloc (.cells (((l.map (Value.int .i64)).take i).toArray ++ Builtin.zeroCells (Value.int .i64 0).cells (l.length + v.length - i) ++ Builtin.zeroCells (Value.int .i64 0).cells (G - (l.length + v.length))) 3)).drew).tape = W.tape ∧ ((W.alloc (.cells (((l.map (Value.int .i64)).take i).toArray ++ Builtin.zeroCells (Value.int .i64 0).cells (l.length + v.length - i) ++ Builtin.zeroCells (Value.int .i64 0).cells (G - (l.length + v.length))) 3)).drew).output = W.output := ⟨rfl, rfl, rfl⟩
    have hzz : zs.length = G - i := hzl
    generalize (W.alloc (.cells (((l.map (Value.int .i64)).take i).toArray ++ Builtin.zeroCells (Value.int .i64 0).cells (l.length + v.length - i) ++ Builtin.zeroCells (Value.int .i64 0).cells (G - (l.length + v.length))) 3)).drew = WA at h0 hA1 hA2 hA3 ⊢
    have h1 := setCells_at (v.map (Value.int .i64)) i WA _ h0 (by simp only [List.length_append, List.length_map, List.length_take]; omega)
    have hs1 := setCells_same W.heap.size (v.map (Value.int .i64)) i WA
    have hf1 := fun x hx => setCells_far W.heap.size x hx (v.map (Value.int .i64)) i WA
    have hB : (WA.setCells W.heap.size i (v.map (Value.int .i64))).drew.heap = (WA.setCells W.heap.size i (v.map (Value.int .i64))).heap ∧ (WA.setCells W.heap.size i (v.map (Value.int .i64))).drew.os = (WA.setCells W.heap.size i (v.map (Value.int .i64))).os ∧ (WA.setCells W.heap.size i (v.map (Value.int .i64))).drew.tape = (WA.setCells W.heap.size i (v.map (Value.int .i64))).tape ∧ (WA.setCells W.heap.size i (v.map (Value.int .i64))).drew.output = (WA.setCells W.heap.size i (v.map (Value.int .i64))).output := ⟨rfl, rfl, rfl, rfl⟩
    generalize (WA.setCells W.heap.size i (v.map (Value.int .i64))).drew = WB at hB ⊢
    generalize WA.setCells W.heap.size i (v.map (Value.int .i64)) = WB' at hB h1 hs1 hf1
    rw [← hB.1] at h1
    have h2 := setCells_at ((l.map (Value.int .i64)).drop i) (i + v.length) WB _ h1 (by simp only [List.length_append, List.length_map, List.length_take, List.length_drop]; omega)
    rw [show (v.map (Value.int .i64)).length = v.length by simp] at h2
    rw [splice3 (l.map (Value.int .i64)) zs (v.map (Value.int .i64)) i v.length (by simp; omega) (by simp) (by simp; omega)] at h2
    have e2 : (l.map (Value.int .i64)).take i ++ v.map (Value.int .i64) ++ (l.map (Value.int .i64)).drop i = (l.take i ++ v ++ l.drop i).map (Value.int .i64) := by simp
    rw [e2] at h2
    have hs2 := setCells_same W.heap.size ((l.map (Value.int .i64)).drop i) (i + v.length) WB
    have hf2 := fun x hx => setCells_far W.heap.size x hx ((l.map (Value.int .i64)).drop i) (i + v.length) WB
    obtain ⟨γ', κ', k1, k2, k3⟩ := hC.swap (b := ⟨3, 1, l.map (cK .i64)⟩) hb (g' := W.heap.size) (k' := G) (rows' := (l.take i ++ v ++ l.drop i).map (cK .i64)) h2
      (fun x hx hlt => (hf2 x hx).trans ((by rw [hB.1]; exact hf1 x hx : WB.heap[x]? = WA.heap[x]?).trans (hA1 x hlt))) (by rw [hs2.2.2.2, hB.1, hs1.2.2.2, hA2]; omega) (hs2.1.trans (hB.2.1.trans (hs1.1.trans hA3.1))) (hs2.2.1.trans (hB.2.2.1.trans (hs1.2.1.trans hA3.2.1))) (hs2.2.2.1.trans (hB.2.2.2.trans (hs1.2.2.1.trans hA3.2.2))) (.inr (Nat.le_refl _))
      (fun e => by have e' : (l.map (cK .i64)).length = _ := e; rw [hnew, List.length_map] at e'; omega) (by rw [hnew]; simp) (cK_row _) (cK_cell _) (by rw [hnew]; exact hge) hcm (by simp only [List.length_append, List.length_map, List.length_drop, List.length_take, hzz]; show _ = G * 1; omega) hrep
    exact ⟨_, γ', κ', rfl, k1, hos k2 k3⟩
end Go.Proofs.YtmhejcnaanocpaaGreat.A
namespace Go.Proofs.YtmhejcnaanocpaaGreat.A
open Go.RowKit
set_option linter.unusedVariables false
set_option linter.unusedSimpArgs false
set_option maxRecDepth 100000
set_option maxHeartbeats 4000000
def insAt (l : List Int) (i x : Int) : List Int := l.take i.toNat ++ x :: l.drop i.toNat
theorem insAt_len (l : List Int) (i x : Int) (h0 : 0 ≤ i) (h1 : i ≤ l.length) : (insAt l i x).length = l.length + 1 := by
  unfold insAt
  simp only [List.length_append, List.length_take, List.length_cons, List.length_drop]; omega
theorem insAt_end (l : List Int) (x : Int) : insAt l l.length x = l ++ [x] := by unfold insAt; simp
theorem iav_val {M : Mm} {n : Int} {v : Value} (h : RepA M (iav n) v) : v = .int .i64 n := by
  cases h with | imm _ _ h => exact h.int_inv
theorem insM_c (l : List Int) (i x : Int) (h0 : 0 ≤ i) (h1 : i < l.length) (hl : l.length ≤ 1000000000) : GenC Tryz.prog 150 [⟨3, 1, l.map cI⟩, ⟨3, 1, [cI x]⟩] [.os 0 l.length, iav i, .os 1 1] (.os 0 (insAt l i x).length) [⟨3, 1, (insAt l i x).map cI⟩, ⟨3, 1, [cI x]⟩] := by
  refine ⟨(insK_c l x hl).1, fun W X γ κ xs hC hargs => ?_⟩
  obtain ⟨k, rfl⟩ : ∃ k : Nat, i = k := ⟨i.toNat, by omega⟩
  have hk : k < l.length := by omega
  have en : insAt l k x = l.take k ++ [x] ++ l.drop k := by unfold insAt; simp
  cases hargs with
  | cons a0 t =>
    cases t with
    | cons a1 t =>
      cases t with
      | cons a2 t =>
        cases t
        have e0 := a0.os_val (b := ⟨3, 1, l.map cI⟩) rfl (by simp)
        have e2 := a2.os_val (b := ⟨3, 1, [cI x]⟩) rfl rfl
        have e1 := iav_val a1
        subst e0 e1 e2
        obtain ⟨g1, sp1, hg1, hmem1, hcap1⟩ := ownI hC (id := 1) (l := [x]) rfl (by simp)
        obtain ⟨g0, sp0, hg0, hmem0, hcap0⟩ := ownI hC (id := 0) (l := l) rfl (fun e => by rw [e] at hk; simp at hk)
        have h := coreI hC (id := 0) (l := l) (v := [x]) (i := k) rfl hk (by simp) hl (by simp) (vb := g1) (voff := 0) (vc := κ 1) (fun e => by
            have := hC.inj 0 1 g1 (by simp) (by simp) e hg1
            cases this) (fun j y hy => by
            rw [blk_cell hmem1]
            simp only [List.getElem?_toArray, Nat.zero_add]
            rw [List.getElem?_append_left (List.getElem?_eq_some_iff.1 hy).1]; exact hy)
        have hA : (St.mm ⟨[], [⟨3, 1, l.map cI⟩, ⟨3, 1, [cI x]⟩]⟩ (cxG Tryz.prog X [⟨3, 1, l.map cI⟩, ⟨3, 1, [cI x]⟩] γ κ W 0) γ κ W).γ 1 = some g1 := hg1
        rw [hA]
        refine h.mono ?_
        rintro e W' ⟨y, γ', κ', rfl, hC', hr⟩
        refine ⟨y, γ', κ', rfl, ?_, ?_⟩
        · rw [en]; exact hC'
        · rw [en]
          rw [show (l.take k ++ [x] ++ l.drop k).length = l.length + [x].length by simp only [List.length_append, List.length_take, List.length_drop, List.length_singleton]; omega]
          exact hr
def insFM (f : List Node) (node parent idx : Int) : List Node :=
  updAt (updAt f (parent - 1) { atI f (parent - 1) with kids := insAt (atI f (parent - 1)).kids idx node }) (node - 1)
    { atI (updAt f (parent - 1) { atI f (parent - 1) with kids := insAt (atI f (parent - 1)).kids idx node }) (node - 1) with parent := parent }
theorem insFM_len (f : List Node) (node parent idx : Int) : (insFM f node parent idx).length = f.length := by unfold insFM updAt; simp
theorem insFM_end (f : List Node) (node parent : Int) : insFM f node parent (atI f (parent - 1)).kids.length = insF f node parent := by unfold insFM insF; rw [insAt_end]
theorem insertM_c (f : List Node) (c : Change) (hf : Fit f) (h1 : 1 ≤ c.node) (h2 : c.node ≤ f.length) (h3 : 1 ≤ c.parent) (h4 : c.parent ≤ f.length) (hi0 : 0 ≤ c.index) (hi1 : c.index < (atI f (c.parent - 1)).kids.length) (hp0 : (atI f (c.node - 1)).parent = 0) : GenC Tryz.prog 113 [⟨24, 1, [[.os 1 f.length]]⟩, ⟨44, 16, rowsK f (c.parent - 1) (.os 2 (atI f (c.parent - 1)).kids.length)⟩, ⟨3, 1, (atI f (c.parent - 1)).kids.map cI⟩] [.ptr 0 1 0 0, c.av] (bav true) [⟨24, 1, [[.os 1 f.length]]⟩, ⟨44, 16, rowsK (insFM f c.node c.parent c.index) (c.parent - 1) (.os 2 (insAt (atI f (c.parent - 1)).kids c.index c.node).length)⟩, ⟨3, 1, (insAt (atI f (c.parent - 1)).kids c.index c.node).map cI⟩] := by
  have hl := hf.len
  have hR := rowsK_len f (c.parent - 1) (.os 2 (atI f (c.parent - 1)).kids.length)
  have hsc : (rowsK f (c.parent - 1) (.os 2 (atI f (c.parent - 1)).kids.length)).all (fun r => r.all (AV.sc1 3)) = true := rowsK_sc f _ _ 3 rfl
  have eN : ∀ n, renB (rho [0, 1, 2] n) ⟨44, 16, rowsK f (c.parent - 1) (.os 2 (atI f (c.parent - 1)).kids.length)⟩ = ⟨44, 16, rowsK f (c.parent - 1) (.os 2 (atI f (c.parent - 1)).kids.length)⟩ := fun n => renB_id (rho3 n) hsc
  have eK : ∀ n, renB (rho [0, 1, 2] n) ⟨3, 1, (atI f (c.parent - 1)).kids.map cI⟩ = ⟨3, 1, (atI f (c.parent - 1)).kids.map cI⟩ := fun n => renB_cI _ _ _ _
  obtain ⟨nd, hnd⟩ : ∃ nd, nd = atI f (c.node - 1) := ⟨_, rfl⟩
  rw [← hnd] at hp0
  obtain ⟨kk, hkk, hnode⟩ : ∃ kk : AV, kk = (if c.node - 1 = c.parent - 1 then (.os 2 (atI f (c.parent - 1)).kids.length) else .imm (.sl (nd.kids.map i64))) ∧ atI (rowsK f (c.parent - 1) (.os 2 (atI f (c.parent - 1)).kids.length)) (c.node - 1) = nodeRow nd kk := by
    refine ⟨_, rfl, ?_⟩
    rw [rowsK_at f _ _ (by omega) (by omega) _ (by omega) (by omega), hnd]
    split
    · rename_i e; rw [e]
    · rfl
  have hpar : atI (rowsK f (c.parent - 1) (.os 2 (atI f (c.parent - 1)).kids.length)) (c.parent - 1) = nodeRow (atI f (c.parent - 1)) (.os 2 (atI f (c.parent - 1)).kids.length) := by
    rw [rowsK_at f _ _ (by omega) (by omega) _ (by omega) (by omega), if_pos rfl]
  obtain ⟨R1, hR1⟩ : ∃ R1, R1 = (rowsK f (c.parent - 1) (.os 2 (atI f (c.parent - 1)).kids.length)).set (c.parent - 1).toNat (nodeRow (atI f (c.parent - 1)) (.os 2 (insAt (atI f (c.parent - 1)).kids c.index c.node).length)) := ⟨_, rfl⟩
  have hR1l : R1.length = f.length := by rw [hR1, List.length_set, hR]
  obtain ⟨kk2, hkk2, hnode2⟩ : ∃ kk2 : AV, kk2 = (if c.node - 1 = c.parent - 1 then (.os 2 (insAt (atI f (c.parent - 1)).kids c.index c.node).length) else .imm (.sl (nd.kids.map i64))) ∧ atI R1 (c.node - 1) = nodeRow nd kk2 := by
    refine ⟨_, rfl, ?_⟩
    rw [hR1, atI_set _ _ _ _ (by omega) (by omega) (by omega), hnd]
    split
    · rename_i e; rw [e]
    · rename_i e
      rw [rowsK_at f _ _ (by omega) (by omega) _ (by omega) (by omega), if_neg e]; rfl
  have hfin : R1.set (c.node - 1).toNat (nodeRow { nd with parent := c.parent } kk2) = rowsK (insFM f c.node c.parent c.index) (c.parent - 1) (.os 2 (insAt (atI f (c.parent - 1)).kids c.index c.node).length) := by
    have hil := insFM_len f c.node c.parent c.index
    have hul : ∀ n, (updAt f (c.parent - 1) n).length = f.length := fun n => by unfold updAt; simp
    refine ext_atI (by rw [List.length_set, rowsK_len, hil, hR1l]) fun i g0 g1 => ?_
    rw [List.length_set] at g1
    rw [atI_set _ _ _ _ (by omega) (by omega) g0, rowsK_at _ _ _ (by omega) (by omega) _ g0 (by omega)]
    have hat : ∀ j : Int, 0 ≤ j → j < f.length → atI (insFM f c.node c.parent c.index) j = if j = c.node - 1 then { (if c.node - 1 = c.parent - 1 then { atI f (c.parent - 1) with kids := insAt (atI f (c.parent - 1)).kids c.index c.node } else atI f (c.node - 1)) with parent := c.parent } else if j = c.parent - 1 then { atI f (c.parent - 1) with kids := insAt (atI f (c.parent - 1)).kids c.index c.node } else atI f j := by
      intro j j0 j1
      unfold insFM
      rw [show updAt (updAt f (c.parent - 1) { atI f (c.parent - 1) with kids := insAt (atI f (c.parent - 1)).kids c.index c.node }) (c.node - 1) { atI (updAt f (c.parent - 1) { atI f (c.parent - 1) with kids := insAt (atI f (c.parent - 1)).kids c.index c.node }) (c.node - 1) with parent := c.parent } = (updAt f (c.parent - 1) { atI f (c.parent - 1) with kids := insAt (atI f (c.parent - 1)).kids c.index c.node }).set (c.node - 1).toNat { atI (updAt f (c.parent - 1) { atI f (c.parent - 1) with kids := insAt (atI f (c.parent - 1)).kids c.index c.node }) (c.node - 1) with parent := c.parent } from rfl]
      rw [atI_set _ _ _ _ (by omega) (by rw [hul]; omega) j0]
      unfold updAt
      rw [atI_set _ _ _ _ (by omega) (by omega) (by omega), atI_set _ _ _ _ (by omega) (by omega) j0]
    by_cases e1 : i = c.node - 1
    · rw [if_pos e1]
      by_cases e2 : c.node - 1 = c.parent - 1
      · rw [if_pos (by omega), hat _ (by omega) (by omega), if_pos (by omega), if_pos e2, hkk2, if_pos e2, hnd, e2]; rfl
      · rw [if_neg (by omega), hat _ g0 (by omega), if_pos e1, if_neg e2, hkk2, if_neg e2, hnd]; rfl
    · rw [if_neg e1, hR1, atI_set _ _ _ _ (by omega) (by omega) g0]
      by_cases e2 : i = c.parent - 1
      · rw [if_pos e2, if_pos e2, hat _ (by omega) (by omega), if_neg (by omega), if_pos rfl]; rfl
      · rw [if_neg e2, if_neg e2, rowsK_at f _ _ (by omega) (by omega) _ g0 (by omega), if_neg e2, hat _ g0 (by omega), if_neg e1, if_neg e2]
  have hscF : (rowsK (insFM f c.node c.parent c.index) (c.parent - 1) (.os 2 (insAt (atI f (c.parent - 1)).kids c.index c.node).length)).all (fun r => r.all (AV.sc1 3)) = true := rowsK_sc _ _ _ 3 rfl
  have gnode := get_atI (by omega) (by omega) hnode
  have gpar := get_atI (by omega) (by omega) hpar
  have gnode2 := get_atI (by omega) (by omega) hnode2
  refine GenC.mk tabs Tryz.func113 55 [.tmp 4] rfl rfl rfl rfl rfl ?_; intro w0 X γ κ
  refine AW.reserve 3 1 rfl ?_
  (repeat' (first | ((with_reducible show AL _ _ _ _ _); first | (refine AL.step tabs rfl ?_; try dsimp only [len, List.nil_append, List.cons_append]) | refine AL.callG [0, 1, 2] 5 rfl rfl rfl rfl rfl (caps := []) rfl (ends2_c f (rowsK f (c.parent - 1) (.os 2 (atI f (c.parent - 1)).kids.length)) (atI f (c.parent - 1)).kids c hR hl hsc h1 h2 h3 h4) rfl (by simp only [List.map_cons, List.map_nil, eN, eK]; rfl) rfl rfl (by simp only [List.all_cons, List.all_nil, Bool.and_true, Bool.and_eq_true]; exact ⟨rfl, hsc, (by simp only [List.all_cons, List.all_nil, List.all_map, Function.comp_def, cI, cB, iav, bav, AV.sc1, AV.sc0, Bool.and_true, Bool.and_self, all_tt]; try rfl)⟩) rfl (by simp only [List.all_cons, List.all_nil, Bool.and_true, Bool.and_eq_true]; exact ⟨rfl, hsc, (by simp only [List.all_cons, List.all_nil, List.all_map, Function.comp_def, cI, cB, iav, bav, AV.sc1, AV.sc0, Bool.and_true, Bool.and_self, all_tt]; try rfl)⟩) rfl (hpA := [⟨24, 1, [[.os 1 f.length]]⟩, ⟨44, 16, rowsK f (c.parent - 1) (.os 2 (atI f (c.parent - 1)).kids.length)⟩, ⟨3, 1, (atI f (c.parent - 1)).kids.map cI⟩]) (by simp only [List.map_cons, List.map_nil, eN, eK]; rfl) (r' := .tup [.ptr 1 f.length (c.node - 1).toNat 0, .ptr 1 f.length (c.parent - 1).toNat 0]) rfl rfl ?_ | refine AL.ope rfl (OpOK.nilCheckO (b := ⟨44, 16, R1⟩) rfl rfl rfl (by rw [hR1]; rfl) hR1l.symm) rfl ?_ | refine AL.ope rfl (OpOK.fieldAddrO (b := ⟨44, 16, R1⟩) tabs rfl rfl rfl rfl rfl rfl rfl (by rw [hR1]; rfl) hR1l.symm) rfl ?_ | refine AL.ope rfl (OpOK.store_own (i := ti3) (v := iav c.parent) (b := ⟨44, 16, R1⟩) (r := nodeRow nd kk2) tabs rfl rfl rfl rfl rfl (by rw [← nth_eq, hR1]; rfl) hR1l.symm rfl rfl (Nat.le_of_ble_eq_true rfl) gnode2) rfl ?_ | refine AL.nil ?_ | (refine AL.gsplitE rfl rfl rfl (fun hc => ?_) (fun hc => ?_) <;> (fail_if_success (exact absurd hc (by decide))) <;> (try simp only [hsx] at hc) <;> (try first | (exfalso; omega) | contradiction | (exfalso; simp [dec_eq] at hc; done)))) | ((with_reducible show DQ _ _ _ _ _ _); first | refine DQ.stepc (LS.ptrnil (b := ⟨44, 16, rowsK f (c.parent - 1) (.os 2 (atI f (c.parent - 1)).kids.length)⟩) tabs rfl rfl rfl u153 rfl rfl hR.symm rfl) rfl rfl rfl rfl rfl ?_ | refine DQ.stepc (LS.nilCheck (b := ⟨44, 16, rowsK f (c.parent - 1) (.os 2 (atI f (c.parent - 1)).kids.length)⟩) rfl rfl rfl rfl rfl hR.symm) rfl rfl rfl rfl rfl ?_ | refine DQ.stepc (LS.fieldAddr (b := ⟨44, 16, rowsK f (c.parent - 1) (.os 2 (atI f (c.parent - 1)).kids.length)⟩) tabs rfl rfl rfl rfl rfl rfl rfl rfl rfl hR.symm) rfl rfl rfl rfl rfl ?_ | refine DQ.stepc (LS.load_own (i := ti3) (r := nodeRow nd kk) (b := ⟨44, 16, rowsK f (c.parent - 1) (.os 2 (atI f (c.parent - 1)).kids.length)⟩) (row := (c.node - 1).toNat) tabs rfl rfl rfl rfl rfl rfl hR.symm gnode rfl) rfl rfl rfl rfl rfl ?_ | refine DQ.stepc (LS.load_own (i := ti41) (r := nodeRow (atI f (c.parent - 1)) (.os 2 (atI f (c.parent - 1)).kids.length)) (b := ⟨44, 16, rowsK f (c.parent - 1) (.os 2 (atI f (c.parent - 1)).kids.length)⟩) (row := (c.parent - 1).toNat) tabs rfl rfl rfl rfl rfl rfl hR.symm gpar rfl) rfl rfl rfl rfl rfl ?_ | refine DQ.stepc (LS.len_os (b := ⟨3, 1, (atI f (c.parent - 1)).kids.map cI⟩) tabs rfl rfl rfl rfl rfl rfl rfl (by simp)) rfl rfl rfl rfl rfl ?_ | refine DQ.stepc (LS.lit 3 tabs rfl rfl rfl rfl rfl rfl rfl rfl rfl rfl rfl rfl) rfl rfl rfl rfl rfl ?_ | refine DQ.stepc (LS.callG2 2 3 (r' := .os 2 (insAt (atI f (c.parent - 1)).kids c.index c.node).length) (bA := ⟨3, 1, (insAt (atI f (c.parent - 1)).kids c.index c.node).map cI⟩) rfl rfl rfl rfl rfl (insM_c (atI f (c.parent - 1)).kids c.index c.node hi0 hi1 (hf.atI (c.parent - 1) (by omega) (by omega)).kids) (fun _ => rfl) rfl rfl rfl (fun _ => (renB_cI _ _ _ _).symm) (fun _ => rfl) rfl (by simp only [List.all_cons, List.all_nil, List.all_map, Function.comp_def, cI, cB, iav, bav, AV.sc1, AV.sc0, Bool.and_true, Bool.and_self, all_tt]; try rfl) rfl (by simp only [List.all_cons, List.all_nil, List.all_map, Function.comp_def, cI, cB, iav, bav, AV.sc1, AV.sc0, Bool.and_true, Bool.and_self, all_tt]; try rfl) (fun _ => renB_cI _ _ _ _) (fun _ => rfl)) rfl rfl rfl rfl rfl ?_ | refine DQ.stepc (LS.store (i := ti41) (v := (.os 2 (insAt (atI f (c.parent - 1)).kids c.index c.node).length)) (ty := 44) (sz := 16) (rows := rowsK f (c.parent - 1) (.os 2 (atI f (c.parent - 1)).kids.length)) (r := nodeRow (atI f (c.parent - 1)) (.os 2 (atI f (c.parent - 1)).kids.length)) tabs rfl rfl rfl rfl rfl rfl rfl hR.symm rfl rfl (by decide) gpar) rfl rfl rfl rfl rfl ?_ | refine DQ.stepc (LS.val tabs rfl rfl rfl) rfl rfl rfl rfl rfl ?_ | refine DQ.stepc (LS.skip rfl rfl) rfl rfl rfl rfl rfl ?_ | refine DQ.nilM (by kernel_rfl) ?_ | (refine DQ.gsplitE rfl rfl rfl (fun hc => ?_) (fun hc => ?_) <;> (fail_if_success (exact absurd hc (by decide))) <;> (try simp only [hsx] at hc) <;> (try first | (exfalso; omega) | contradiction | (exfalso; simp [dec_eq] at hc; done)))) | refine AW.seq ?_ | refine AW.region ?_ | refine Then.norm ?_ | refine AW.skip ?_ | refine AW.condT rfl ?_ | refine AW.condF rfl ?_ | (refine AW.cond rfl (fun hc => ?_) (fun hc => ?_) <;> (try simp only [hsx] at hc) <;> (try first | (exfalso; omega) | contradiction | (exfalso; simp [dec_eq] at hc; done))) | refine AW.ret ?_ | refine Then.ret ?_ | refine AW.drawW mixed (by kernel_rfl) ?_))
  all_goals first
    | (exfalso; omega)
    | (refine RG.ret 3 rfl rfl (by rw [← hfin]; rfl) rfl ?_ (by simp [cxG])
       simp only [List.all_cons, List.all_nil, Bool.and_true, Bool.and_eq_true]
       exact ⟨rfl, hscF, (by simp only [List.all_cons, List.all_nil, List.all_map, Function.comp_def, cI, cB, iav, bav, AV.sc1, AV.sc0, Bool.and_true, Bool.and_self, all_tt]; try rfl)⟩)

end Go.Proofs.YtmhejcnaanocpaaGreat.A
