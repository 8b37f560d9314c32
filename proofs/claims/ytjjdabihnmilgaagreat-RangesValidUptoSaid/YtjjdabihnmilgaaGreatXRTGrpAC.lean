/- The abstract walk, part H: struct and slice literals. -/
import Derived.Test.YtjjdabihnmilgaaGreatXRTGrpAB
import Derived.Laws.Tables
import Derived.Deep.AppendSrc
import Derived.Laws.MakeOwn
namespace Go.Proofs.YtjjdabihnmilgaaGreat.A
open Go.RowKit
set_option linter.unusedVariables false
set_option linter.unusedSimpArgs false
section
variable {C : Cx} {s : St} {γ : Nat → Option Nat} {κ : Nat → Nat} {a : Act} {W : World} {o : Oper} {T : List (Nat × TI)}
def aFill (place : Nat → Option (Nat × Nat)) : List AV → List (Nat × AV) → Option (List AV)
  | l, [] => some l
  | l, (i, v) :: r => match place i with
    | none => none
    | some (off, n) => match Nat.beq (len (avCells v)) n && Nat.ble (off + n) (len l) with
      | true => aFill place (spl l off (avCells v)) r
      | false => none
theorem foldl_spl (off : Nat) : ∀ (vs : List Value) (j : Nat) (cs : Array Value), off + j + vs.length ≤ cs.size →
    ((vs.zipIdx j).foldl (fun cs (x : Value × Nat) => cs.setIfInBounds (off + x.2) x.1) cs).toList = cs.toList.take (off + j) ++ vs ++ cs.toList.drop (off + j + vs.length)
  | [], j, cs, h => by simp
  | v :: vs, j, cs, h => by
    simp only [List.length_cons] at h
    simp only [List.zipIdx_cons, List.foldl_cons]
    rw [foldl_spl off vs (j + 1) _ (by simp; omega)]
    rw [Array.toList_setIfInBounds]
    rw [List.take_set, List.drop_set_of_lt (by omega)]
    have e0 : off + (j + 1) = off + j + 1 := by omega
    rw [e0, List.take_succ_eq_append_getElem (by simp; omega)]
    have e3 : (List.take (off + j) cs.toList ++ [cs.toList[off + j]'(by simp; omega)]).set (off + j) v = List.take (off + j) cs.toList ++ [v] := by
      rw [List.set_append, if_neg (by simp; omega)]
      simp only [List.length_take, Array.length_toList]
      rw [Nat.min_eq_left (by omega)]
      simp
    rw [e3]
    simp only [List.length_cons, List.append_assoc, List.cons_append, List.nil_append]
    rw [show off + j + 1 + vs.length = off + j + (vs.length + 1) by omega]
theorem fill_ok {M : Mm} {place place' : Nat → Option (Nat × Nat)} (hp : ∀ i z, place i = some z → place' i = some z) : ∀ {ps : List (Nat × AV)} {qs : List (Nat × Value)} (_ : All2 (fun p q => p.1 = q.1 ∧ RepA M p.2 q.2) ps qs) {l l' : List AV} {cs : Array Value},
    All2 (RepA M) l cs.toList → aFill place l ps = some l' → ∃ cs', Instr.fill place' cs qs = some cs' ∧ All2 (RepA M) l' cs'.toList
  | [], qs, h, l, l', cs, hl, hf => by
    cases h
    simp only [aFill, Option.some.injEq] at hf
    subst hf
    exact ⟨cs, rfl, hl⟩
  | (i, v) :: ps, qs, h, l, l', cs, hl, hf => by
    cases h with
    | @cons _ q _ qs h1 h2 =>
      obtain ⟨j, x⟩ := q
      obtain ⟨rfl, hv⟩ : i = j ∧ RepA M v x := h1
      simp only [aFill] at hf
      split at hf
      · cases hf
      · rename_i off n hpl
        split at hf
        · rename_i hc
          simp only [Bool.and_eq_true] at hc
          have e1 := Nat.eq_of_beq_eq_true hc.1
          have e2 := Nat.le_of_ble_eq_true hc.2
          rw [len_eq] at e1 e2
          have hcs := hv.cells
          have hsz : x.cells.size = n := by rw [← e1, hcs.length, Array.length_toList]
          have hll : cs.size = l.length := by rw [hl.length, Array.length_toList]
          have hcells := foldl_spl off x.cells.toList 0 cs (by simp; omega)
          simp only [Nat.add_zero] at hcells
          have hrep : All2 (RepA M) (spl l off (avCells v)) ((x.cells.toList.zipIdx 0).foldl (fun cs (x : Value × Nat) => cs.setIfInBounds (off + x.2) x.1) cs).toList := by
            rw [hcells, spl_eq (by omega), hcs.length]
            exact ((hl.take _).append hcs).append (hl.drop _)
          obtain ⟨cs', g1, g2⟩ := fill_ok hp h2 hrep hf
          refine ⟨cs', ?_, g2⟩
          unfold Instr.fill
          rw [hp _ _ hpl]
          simp only
          rw [if_neg (by simp; omega)]
          rw [← g1]
          congr 1
          rw [← Array.foldl_toList]
          simp only [Array.toList_zipIdx]
        · cases hf
def evps (s : St) : List (Nat × Operand) → Option (List (Nat × AV))
  | [] => some []
  | (i, x) :: l => match s.ev x with
    | none => none
    | some v => match evps s l with
      | none => none
      | some vs => some ((i, v) :: vs)
theorem Conc.evps (hC : Conc C s γ κ a W) : ∀ {l : List (Nat × Operand)} {vs : List (Nat × AV)}, A.evps s l = some vs → All2 (fun p q => p.1 = q.1 ∧ RepA (s.mm C γ κ W) p.2 q.2) vs (l.map fun (i, x) => (i, a.eval x))
  | [], vs, h => by simp only [A.evps, Option.some.injEq] at h; subst h; exact .nil
  | (i, x) :: l, vs, h => by
    simp only [A.evps] at h
    split at h
    · cases h
    · rename_i v hv
      split at h
      · cases h
      · rename_i vs' hvs
        obtain rfl := Option.some.inj h
        exact .cons ⟨rfl, hC.ev hv⟩ (hC.evps hvs)
theorem places_eq {P : Program} : ∀ {fs : List Field} {l : List (Nat × Nat × Bool)}, fs.mapM (fldOf P) = some l → fs.mapM (fun f => (P.info? f.type).map fun i => (f.offset, i.size)) = some (l.map fun z => (z.1, z.2.1))
  | [], l, h => by simp at h; subst h; rfl
  | fd :: fs, l, h => by
    simp only [List.mapM_cons] at h ⊢
    cases h1 : fldOf P fd with
    | none => rw [h1] at h; simp at h
    | some q =>
      rw [h1] at h
      cases h2 : fs.mapM (fldOf P) with
      | none => rw [h2] at h; simp at h
      | some l' =>
        rw [h2] at h
        simp at h
        subst h
        rw [places_eq h2]
        have : (P.info? fd.type).map (fun i => (fd.offset, i.size)) = some (q.1, q.2.1) := by
          unfold fldOf at h1
          cases hi : P.info? fd.type with
          | none => rw [hi] at h1; simp at h1
          | some info =>
            rw [hi] at h1
            simp only [Option.map_some] at h1 ⊢
            split at h1
            · rename_i e1 e2
              obtain rfl := Option.some.inj e1
              obtain rfl := Option.some.inj h1
              rfl
            · rename_i e1 _
              obtain rfl := Option.some.inj e1
              obtain rfl := Option.some.inj h1
              rfl
            · cases h1
        rw [this]
        rfl
def fplace (i : TI) (f : Nat) : Option (Nat × Nat) :=
  match nth i.flds f with
  | some (o, n, _) => some (o, n)
  | none => none
theorem TOk.info {P : Program} {t : TypeId} {i : TI} (h : TOk P t i) : ∃ it z, P.info? t = some it ∧ it.size = i.sz ∧ it.bytes = i.bytes ∧ it.zero = some z ∧ constAVs z.cells.toList = some i.zero := by
  obtain ⟨z, h1, h2⟩ := h.zero
  obtain ⟨info, h3, h4⟩ := Option.bind_eq_some_iff.1 h1
  have h5 := h.size
  have h6 := h.bytes
  rw [h3] at h5 h6
  exact ⟨info, z, h3, by simpa using h5, by simpa using h6, h4, h2⟩
theorem OpOK.build (hT : TsOK C.P T) (hd : dok C.nt o.dst = true) {t : TypeId} {ps : Array (Nat × Operand)} (ho : o.op = .build t ps) {i : TI} (hi : look T t = some i) (hne : i.flds ≠ []) {vs : List (Nat × AV)} (hx : evps s ps.toList = some vs) {l : List AV} (h : aFill (fplace i) i.zero vs = some l) : OpOK C s o (s.put o.dst (.agg l)) :=
  OpOK.quiet hd fun γ κ a W hC => by
    have hT' := hT t i hi
    obtain ⟨it, z, h1, h2, _, h3, h4⟩ := hT'.info
    obtain ⟨d, d1, d2, d3⟩ := hT'.und
    have hst : ∃ fs, d = .struct fs ∧ fs.toList.mapM (fldOf C.P) = some i.flds := by
      cases d <;> first | (exact ⟨_, rfl, d3⟩) | (simp [fldsOf] at d3; exact absurd d3.symm (by intro e; exact hne e.symm)) | (simp [fldsOf] at d3; exact absurd d3.symm hne)
    obtain ⟨fs, rfl, hfl⟩ := hst
    obtain ⟨cs', g1, g2⟩ := fill_ok (M := s.mm C γ κ W) (place := fplace i) (place' := fun x => (i.flds.map fun z => (z.1, z.2.1)).toArray[x]?) (by
      intro f z hz
      unfold fplace at hz
      split at hz
      · rename_i o n g hn
        rw [nth_eq] at hn
        obtain rfl := Option.some.inj hz
        simp [hn]
      · cases hz) (hC.evps hx) (constAVs_rep h4) h
    refine ⟨.agg cs', ?_, ?_⟩
    · unfold execOp; rw [ho]
      refine val_run (run_build W t _ cs' ?_)
      unfold Program.built
      rw [h1, d1]
      simp only [h3, places_eq hfl]
      rw [← g1]
      congr 1
      simp
    · have e : cs' = cs'.toList.toArray := by simp
      rw [e]
      exact .agg _ _ (by simpa using g2)
def chunk : Nat → Nat → List AV → List (List AV)
  | 0, _, _ => []
  | n + 1, sz, l => l.take sz :: chunk n sz (l.drop sz)
theorem chunk_flat : ∀ (n sz : Nat) (l : List AV), l.length = n * sz → (chunk n sz l).flatten = l ∧ (chunk n sz l).length = n ∧ ∀ r ∈ chunk n sz l, r.length = sz
  | 0, sz, l, h => by
    have : l = [] := List.length_eq_zero_iff.1 (by simpa using h)
    subst this
    simp [chunk]
  | n + 1, sz, l, h => by
    rw [Nat.succ_mul] at h
    obtain ⟨h1, h2, h3⟩ := chunk_flat n sz (l.drop sz) (by simp; omega)
    refine ⟨by simp [chunk, h1], by simp [chunk, h2], fun r hr => ?_⟩
    simp only [chunk, List.mem_cons] at hr
    rcases hr with e | e
    · subst e; simp; omega
    · exact h3 r e
def reps (n : Nat) (l : List AV) : List AV :=
  match n with
  | 0 => []
  | n + 1 => l ++ reps n l
/-- A slice literal: an own row. -/
def aLit (s : St) (ty : TypeId) (sz n : Nat) (l : List AV) : Option (AV × St) :=
  match Nat.blt 0 sz && Nat.beq (len l) (n * sz) && l.all AV.cell with
  | true => (match s with
    | ⟨e, h⟩ => some (.os (len h) n, ⟨e, h ++ [⟨ty, sz, chunk n sz l⟩]⟩))
  | false => none
theorem madeCells_rep {M : Mm} {l : List AV} {z : List Value} (h : All2 (RepA M) l z) : ∀ n : Nat, All2 (RepA M) (reps n l) ((Array.range (n * z.length)).map fun i => z.toArray[i % z.toArray.size]!).toList
  | 0 => by simp [reps]; exact .nil
  | n + 1 => by
    have ih := madeCells_rep h n
    have e : ((Array.range ((n + 1) * z.length)).map fun i => z.toArray[i % z.toArray.size]!).toList = z ++ ((Array.range (n * z.length)).map fun i => z.toArray[i % z.toArray.size]!).toList := by
      simp only [Array.toList_map, Array.toList_range, List.size_toArray]
      rw [Nat.succ_mul, Nat.add_comm, List.range_add, List.map_append, List.map_map]
      congr 1
      · apply List.ext_getElem?
        intro j
        rw [List.getElem?_map]
        rcases Nat.lt_or_ge j z.length with hj | hj
        · rw [List.getElem?_range hj]
          simp only [Option.map_some]
          rw [Nat.mod_eq_of_lt hj]
          simp [hj]
        · rw [List.getElem?_eq_none (by simpa using hj), List.getElem?_eq_none hj]
          rfl
      · apply List.map_congr_left
        intro j hj
        simp
    rw [e]
    exact h.append ih
theorem OpOK.buildSlice (hT : TsOK C.P T) (hd : dok C.nt o.dst = true) {t e : TypeId} {n : Nat} {ps : Array (Nat × Operand)} (ho : o.op = .buildSlice t n ps) {i ie : TI} (hi : look T t = some i) (hk : i.kd = .sl e) (hie : look T e = some ie) {vs : List (Nat × AV)} (hx : evps s ps.toList = some vs)
    {l : List AV} (h : aFill (fun j => some (j * ie.sz, ie.sz)) (reps n ie.zero) vs = some l) (hn : n * ie.sz ≤ 16777216) {v : AV} {s1 : St} (hl : aLit s e ie.sz n l = some (v, s1)) : OpOK C s o (s1.put o.dst v) :=
  OpOK.val hd fun γ κ a W hC => by
    have hT' := hT t i hi
    have hTe := hT e ie hie
    obtain ⟨it, z, h1, h2, _, h3, h4⟩ := hTe.info
    obtain ⟨d, d1, d2, d3⟩ := hT'.und
    rw [hk] at d2
    obtain rfl := kd_sl d2
    obtain ⟨z', hz1, hz2⟩ := hTe.zeroValue
    have hzl : z'.cells.toList.length = ie.zero.length := (constAVs_rep (M := s.mm C γ κ W) hz1).length.symm
    unfold aLit at hl
    split at hl
    · rename_i hc
      simp only [Bool.and_eq_true, Nat.blt_eq, List.all_eq_true] at hc
      obtain ⟨⟨c1, c2⟩, c3⟩ := hc
      have c2 := Nat.eq_of_beq_eq_true c2
      rw [len_eq] at c2
      obtain ⟨rfl, rfl⟩ : _ = v ∧ _ = s1 := by simpa using hl
      have hmade := madeCells_rep (constAVs_rep (M := s.mm C γ κ W) hz1) n
      have hz0 : ∃ zc : Array Value, ((n * ie.sz = 0 ∧ zc = #[]) ∨ (n * ie.sz ≠ 0 ∧ zc = z'.cells)) ∧ All2 (RepA (s.mm C γ κ W)) (reps n ie.zero) ((Array.range (n * ie.sz)).map (zc[· % zc.size]!)).toList := by
        by_cases h0 : n * ie.sz = 0
        · have hn0 : n = 0 := by
            rcases Nat.eq_zero_or_pos n with e | e
            · exact e
            · exact absurd h0 (Nat.ne_of_gt (Nat.mul_pos e c1))
          subst hn0
          refine ⟨#[], .inl ⟨h0, rfl⟩, ?_⟩
          simp [reps]; exact .nil
        · refine ⟨z'.cells, .inr ⟨h0, rfl⟩, ?_⟩
          have e1 : n * ie.sz = n * z'.cells.toList.length := by rw [hzl, hTe.zl]
          rw [e1]
          simpa using hmade
      obtain ⟨zc, hr1, hr2⟩ := hz0
      obtain ⟨cs', g1, g2⟩ := fill_ok (place' := fun j => some (j * ie.sz, ie.sz)) (fun i z h => h) (hC.evps hx) hr2 h
      have hnm : n ≤ maxLen := by
        have h1 : n ≤ n * ie.sz := Nat.le_mul_of_pos_right n c1
        have h2 : (16777216 : Nat) ≤ maxLen := by decide
        omega
      obtain ⟨γ', κ', k1, k2, k3, k4⟩ := hC.alloc ⟨e, ie.sz, chunk n ie.sz l⟩ cs'.toList [] n c1 (chunk_flat n ie.sz l c2).2.2 (by rw [(chunk_flat n ie.sz l c2).1]; exact c3) (Nat.le_of_eq (chunk_flat n ie.sz l c2).2.1) hnm (by rw [List.append_nil, ← g2.length, c2]) (by rw [(chunk_flat n ie.sz l c2).1]; exact g2)
      simp only [List.append_nil, Array.toArray_toList] at k1 k4
      refine ⟨.slice (some ⟨W.heap.size, 0, none⟩) n n, γ', κ', _, ?_, k1, ?_⟩
      · unfold execOp; rw [ho]
        refine val_run ?_
        unfold Instr.buildSlice
        rw [run_bind (und_run d1 W)]
        simp only
        rw [run_bind (hTe.sizeOf W), if_neg (by omega)]
        have e3 : (ps.map fun x : Nat × Operand => (x.1, a.eval x.2)).toList = ps.toList.map fun (i, x) => (i, a.eval x) := by simp
        rw [e3]
        rcases hr1 with ⟨h0, rfl⟩ | ⟨h0, rfl⟩
        · rw [if_pos h0, run_bind (run_pure _ _), g1]; rfl
        · rw [if_neg h0, run_bind (hz2 W), run_bind (run_pure _ _), g1]; rfl
      · rw [len_eq]
        refine .os s.hp.length n ⟨e, ie.sz, chunk n ie.sz l⟩ _ _ _ ?_ (Nat.le_of_eq (chunk_flat n ie.sz l c2).2.1.symm) fun _ => ⟨?_, rfl, ?_⟩
        · show (s.hp ++ [_])[s.hp.length]? = _
          simp
        · show _ = (γ' s.hp.length).map _
          rw [k2]; rfl
        · show n = κ' s.hp.length
          rw [k3]
    · cases hl
end
end Go.Proofs.YtjjdabihnmilgaaGreat.A
namespace Go.Proofs.YtjjdabihnmilgaaGreat.A
open Go.RowKit
set_option linter.unusedVariables false
set_option linter.unusedSimpArgs false
section
variable {C : Cx} {s : St} {γ : Nat → Option Nat} {κ : Nat → Nat} {a : Act} {W : World} {o : Oper} {T : List (Nat × TI)}
theorem setCells_far (g k : Nat) (hk : k ≠ g) : ∀ (vs : List Value) (o : Nat) (w : World), (w.setCells g o vs).heap[k]? = w.heap[k]?
  | [], o, w => rfl
  | v :: l, o, w => by rw [World.setCells, setCells_far g k hk l]; exact Below.heap_setCell w ⟨g, o, none⟩ v k hk
theorem setCells_same (g : Nat) : ∀ (vs : List Value) (o : Nat) (w : World), (w.setCells g o vs).os = w.os ∧ (w.setCells g o vs).tape = w.tape ∧ (w.setCells g o vs).output = w.output ∧ (w.setCells g o vs).heap.size = w.heap.size
  | [], o, w => ⟨rfl, rfl, rfl, rfl⟩
  | v :: l, o, w => by
    obtain ⟨h1, h2, h3, h4⟩ := setCells_same g l (o + 1) (w.setCell ⟨g, o, none⟩ v)
    exact ⟨h1, h2, h3, by rw [World.setCells, h4]; simp [World.setCell]⟩
theorem setCells_at {g : Nat} {ty : TypeId} : ∀ (vs : List Value) (o : Nat) (w : World) (cur : List Value), w.heap[g]? = some (.cells cur.toArray ty (0, 0)) → o + vs.length ≤ cur.length →
    (w.setCells g o vs).heap[g]? = some (.cells (cur.take o ++ vs ++ cur.drop (o + vs.length)).toArray ty (0, 0))
  | [], o, w, cur, h, hl => by simpa [World.setCells] using h
  | v :: l, o, w, cur, h, hl => by
    simp only [List.length_cons] at hl
    rw [World.setCells]
    have h2 : (w.setCell ⟨g, o, none⟩ v).heap[g]? = some (.cells (cur.set o v).toArray ty (0, 0)) := by
      simp only [World.setCell, Array.getElem?_modify, if_true, h]
      simp
    rw [setCells_at l (o + 1) _ _ h2 (by simp; omega)]
    congr 3
    rw [List.take_set, List.drop_set_of_lt (by omega)]
    simp only [List.length_cons]
    rw [show o + 1 + l.length = o + (l.length + 1) by omega]
    congr 1
    have ho : o < cur.length := by omega
    rw [List.take_succ_eq_append_getElem ho, List.set_append, if_neg (by simp; omega)]
    simp only [List.length_take]
    rw [Nat.min_eq_left (by omega)]
    simp
/-- An own block takes new rows behind the old ones, where it lies. -/
theorem Conc.more {id : Nat} {b : Blk} (hC : Conc C s γ κ a W) (hb : s.hp[id]? = some b) {g : Nat} (hg : γ id = some g) {rows2 : List (List AV)} {news : List Value} (hroom : b.rows.length + rows2.length ≤ κ id)
    (hr2 : ∀ r ∈ rows2, r.length = b.sz) (hc2 : ∀ c ∈ rows2.flatten, c.cell = true) (hrep : All2 (RepA (s.mm C γ κ W)) rows2.flatten news) :
    Conc C ⟨s.env, s.hp.set id ⟨b.ty, b.sz, b.rows ++ rows2⟩⟩ γ κ a (W.setCells g (b.rows.length * b.sz) news) ∧
    Keep (s.mm C γ κ W) (St.mm ⟨s.env, s.hp.set id ⟨b.ty, b.sz, b.rows ++ rows2⟩⟩ C γ κ (W.setCells g (b.rows.length * b.sz) news)) := by
  have hid : id < s.hp.length := (List.getElem?_eq_some_iff.1 hb).1
  have hB := hC.blk id b hb
  obtain ⟨ys, sp, hmem, hlen, hys⟩ := hC.mem hb hg
  have hyl : ys.length = b.rows.length * b.sz := by rw [← hys.length, flat_len hB.rows]
  have hnl : news.length = rows2.length * b.sz := by rw [← hrep.length, flat_len hr2]
  have hle : (b.rows.length + rows2.length) * b.sz ≤ κ id * b.sz := Nat.mul_le_mul_right _ hroom
  rw [Nat.add_mul] at hle
  have hlen' : ys.length + sp.length = κ id * b.sz := by rw [← hlen, List.length_append]
  let b' : Blk := ⟨b.ty, b.sz, b.rows ++ rows2⟩
  let W' := W.setCells g (b.rows.length * b.sz) news
  have hat : W'.heap[g]? = some (.cells ((ys ++ news) ++ sp.drop news.length).toArray b.ty (0, 0)) := by
    have := setCells_at news (b.rows.length * b.sz) W (ys ++ sp) hmem (by rw [List.length_append]; omega)
    rw [show W' = W.setCells g (b.rows.length * b.sz) news from rfl, this, ← hyl, List.take_left, ← List.drop_drop, List.drop_left]
  have hfar := fun k hk => setCells_far g k hk news (b.rows.length * b.sz) W
  have hsame := setCells_same g news (b.rows.length * b.sz) W
  have hKeep : Keep (s.mm C γ κ W) (St.mm ⟨s.env, s.hp.set id b'⟩ C γ κ W') := by
    refine ⟨fun x hx ⟨o, ho⟩ => ⟨?_, ?_⟩, fun id' bb hbb => ?_⟩
    · refine hfar x fun e => hx (.inr ⟨id, hid, ?_⟩)
      rw [e]; exact hg
    · show ¬ nset C.X γ (s.hp.set id b').length x
      rw [List.length_set]; exact hx
    · show ∃ b'', (s.hp.set id b')[id']? = some b'' ∧ _
      have hbb' : s.hp[id']? = some bb := hbb
      by_cases e : id = id'
      · subst e
        rw [hb] at hbb'; cases hbb'
        exact ⟨b', by rw [List.getElem?_set_self hid], rfl, by simp [b'], fun _ => ⟨rfl, rfl⟩⟩
      · exact ⟨bb, by rw [List.getElem?_set_ne e]; exact hbb', rfl, Nat.le_refl _, fun _ => ⟨rfl, rfl⟩⟩
  refine ⟨⟨hC.size, hC.defers, ?_, ?_, ?_, ?_, hC.xlt, ?_, hsame.1.trans hC.hos, hsame.2.1.trans hC.htape, hsame.2.2.1.trans hC.hout, by rw [hsame.2.2.2]; exact hC.hsize, ?_⟩, hKeep⟩
  · intro t v h
    obtain ⟨x, h1, h2⟩ := hC.env t v h
    exact ⟨x, h1, h2.keep hKeep⟩
  · intro id' bb hbb
    have hbb' : (s.hp.set id b')[id']? = some bb := hbb
    by_cases e : id = id'
    · subst e
      rw [List.getElem?_set_self hid] at hbb'
      obtain rfl := Option.some.inj hbb'
      refine ⟨hB.pos, ?_, ?_, ?_, hB.capm, .inr ⟨g, ys ++ news, sp.drop news.length, hg, hat, ?_, ?_⟩⟩
      · intro q hq
        have hq' : q ∈ b.rows ++ rows2 := hq
        rcases List.mem_append.1 hq' with h | h
        · exact hB.rows q h
        · exact hr2 q h
      · intro c hc
        have hc' : c ∈ (b.rows ++ rows2).flatten := hc
        rw [List.flatten_append, List.mem_append] at hc'
        rcases hc' with h | h
        · exact hB.cell c h
        · exact hc2 c h
      · show (b.rows ++ rows2).length ≤ κ id
        rw [List.length_append]; exact hroom
      · show (ys ++ news ++ sp.drop news.length).length = κ id * b.sz
        simp only [List.length_append, List.length_drop]; omega
      · show All2 _ (b.rows ++ rows2).flatten _
        rw [List.flatten_append]
        exact (hys.mono fun _ _ h => h.keep hKeep).append (hrep.mono fun _ _ h => h.keep hKeep)
    · rw [List.getElem?_set_ne e] at hbb'
      have ho := hC.blk id' bb hbb'
      refine ⟨ho.pos, ho.rows, ho.cell, ho.cap, ho.capm, ?_⟩
      rcases ho.mem with ⟨h1, h2, h3⟩ | ⟨g', ys', sp', h1, h2, h3, h4⟩
      · exact .inl ⟨h1, h2, h3⟩
      · have hne : g' ≠ g := by
          intro eg
          rw [eg] at h1
          exact e (hC.inj id id' g hid (List.getElem?_eq_some_iff.1 hbb').1 hg h1)
        exact .inr ⟨g', ys', sp', h1, (hfar g' hne).trans h2, h3, h4.mono fun _ _ h => h.keep hKeep⟩
  · intro i j g' hi hj h1 h2
    exact hC.inj i j g' (by simpa using hi) (by simpa using hj) h1 h2
  · intro i g' hi hg'
    exact hC.own i g' (by simpa using hi) hg'
  · intro x hx hl
    have hne : x ≠ g := by
      intro e
      rcases (hC.own id g hid hg).2 with h | h
      · omega
      · exact hl (by rw [e]; exact h)
    exact (hfar x hne).trans (hC.old x hx hl)
  · exact hC.lent.keep hKeep
/-- An own block moves to a new place, with new rows behind the old ones. -/
theorem Conc.moved {id : Nat} {b : Blk} (hC : Conc C s γ κ a W) (hb : s.hp[id]? = some b) {rows2 : List (List AV)} {ys2 sp2 : List Value} {k : Nat} (hk : b.rows.length + rows2.length ≤ k) (hkm : k ≤ maxLen) (hlen : (ys2 ++ sp2).length = k * b.sz) (hne : rows2 ≠ [])
    (hr2 : ∀ r ∈ rows2, r.length = b.sz) (hc2 : ∀ c ∈ rows2.flatten, c.cell = true) (hrep : All2 (RepA (s.mm C γ κ W)) (b.rows ++ rows2).flatten ys2) :
    ∃ γ' κ', Conc C ⟨s.env, s.hp.set id ⟨b.ty, b.sz, b.rows ++ rows2⟩⟩ γ' κ' a (W.drew.alloc (.cells (ys2 ++ sp2).toArray b.ty)) ∧ γ' id = some W.heap.size ∧ κ' id = k := by
  have hid : id < s.hp.length := (List.getElem?_eq_some_iff.1 hb).1
  have hB := hC.blk id b hb
  let γ' : Nat → Option Nat := fun i => if i = id then some W.heap.size else γ i
  let κ' : Nat → Nat := fun i => if i = id then k else κ i
  have hγ : ∀ i, i ≠ id → γ' i = γ i := fun i hi => by simp [γ', hi]
  have hκ : ∀ i, i ≠ id → κ' i = κ i := fun i hi => by simp [κ', hi]
  have hγn : γ' id = some W.heap.size := by simp [γ']
  have hκn : κ' id = k := by simp [κ']
  let b' : Blk := ⟨b.ty, b.sz, b.rows ++ rows2⟩
  let W' := W.drew.alloc (.cells (ys2 ++ sp2).toArray b.ty)
  have hgl : ∀ i g, i < s.hp.length → γ i = some g → g < W.heap.size := by
    intro i g hi hg
    obtain ⟨bb, hbb⟩ : ∃ bb, s.hp[i]? = some bb := ⟨_, List.getElem?_eq_getElem hi⟩
    obtain ⟨ys, sp, h2, _⟩ := hC.mem hbb hg
    exact blk_lt h2
  have hold : ∀ k o, W.heap[k]? = some o → W'.heap[k]? = some o := fun k o h => heap_alloc_old (W := W.drew) h
  have hnew : W'.heap[W.heap.size]? = some (.cells (ys2 ++ sp2).toArray b.ty (0, 0)) := heap_alloc_new W.drew _
  have hKeep : Keep (s.mm C γ κ W) (St.mm ⟨s.env, s.hp.set id b'⟩ C γ' κ' W') := by
    refine ⟨fun x hx ⟨o, ho⟩ => ⟨?_, ?_⟩, fun id' bb hbb => ?_⟩
    · exact (hold x o ho).trans (Eq.symm ho)
    · show ¬ nset C.X γ' (s.hp.set id b').length x
      rintro (h | ⟨i, hi, hg⟩)
      · exact hx (.inl h)
      · by_cases e : i = id
        · subst e; rw [hγn] at hg; cases hg
          have := blk_lt (W := W) ho
          omega
        · rw [hγ i e] at hg
          exact hx (.inr ⟨i, by simpa using hi, hg⟩)
    · show ∃ b'', (s.hp.set id b')[id']? = some b'' ∧ _
      have hbb' : s.hp[id']? = some bb := hbb
      by_cases e : id = id'
      · subst e
        rw [hb] at hbb'; cases hbb'
        refine ⟨b', by rw [List.getElem?_set_self hid], rfl, by simp [b'], fun h => ?_⟩
        have : rows2.length = 0 := by simp [b'] at h; simpa using h
        exact absurd (List.length_eq_zero_iff.1 this) hne
      · exact ⟨bb, by rw [List.getElem?_set_ne e]; exact hbb', rfl, Nat.le_refl _, fun _ => ⟨hγ id' fun h => e h.symm, hκ id' fun h => e h.symm⟩⟩
  refine ⟨γ', κ', ⟨hC.size, hC.defers, ?_, ?_, ?_, ?_, hC.xlt, ?_, hC.hos, hC.htape, hC.hout, ?_, ?_⟩, hγn, hκn⟩
  · intro t v h
    obtain ⟨x, h1, h2⟩ := hC.env t v h
    exact ⟨x, h1, h2.keep hKeep⟩
  · intro id' bb hbb
    have hbb' : (s.hp.set id b')[id']? = some bb := hbb
    by_cases e : id = id'
    · subst e
      rw [List.getElem?_set_self hid] at hbb'
      obtain rfl := Option.some.inj hbb'
      refine ⟨hB.pos, ?_, ?_, ?_, ?_, .inr ⟨W.heap.size, ys2, sp2, hγn, hnew, ?_, ?_⟩⟩
      · intro q hq
        have hq' : q ∈ b.rows ++ rows2 := hq
        rcases List.mem_append.1 hq' with h | h
        · exact hB.rows q h
        · exact hr2 q h
      · intro c hc
        have hc' : c ∈ (b.rows ++ rows2).flatten := hc
        rw [List.flatten_append, List.mem_append] at hc'
        rcases hc' with h | h
        · exact hB.cell c h
        · exact hc2 c h
      · show (b.rows ++ rows2).length ≤ κ' id
        rw [List.length_append, hκn]; exact hk
      · show κ' id ≤ _
        rw [hκn]; exact hkm
      · show _ = κ' id * _
        rw [hκn]; exact hlen
      · exact hrep.mono fun _ _ h => h.keep hKeep
    · rw [List.getElem?_set_ne e] at hbb'
      have ho := hC.blk id' bb hbb'
      refine ⟨ho.pos, ho.rows, ho.cell, ?_, ?_, ?_⟩
      · show _ ≤ κ' id'
        rw [hκ id' fun h => e h.symm]; exact ho.cap
      · show κ' id' ≤ _
        rw [hκ id' fun h => e h.symm]; exact ho.capm
      rcases ho.mem with ⟨h1, h2, h3⟩ | ⟨g', ys', sp', h1, h2, h3, h4⟩
      · exact .inl ⟨by show γ' id' = none; rw [hγ id' fun h => e h.symm]; exact h1, h2, by show κ' id' = 0; rw [hκ id' fun h => e h.symm]; exact h3⟩
      · exact .inr ⟨g', ys', sp', by show γ' id' = _; rw [hγ id' fun h => e h.symm]; exact h1, hold _ _ h2, by show _ = κ' id' * _; rw [hκ id' fun h => e h.symm]; exact h3, h4.mono fun _ _ h => h.keep hKeep⟩
  · intro i j g hi hj h1 h2
    have hi' : i < s.hp.length := by simpa using hi
    have hj' : j < s.hp.length := by simpa using hj
    by_cases e1 : i = id <;> by_cases e2 : j = id
    · rw [e1, e2]
    · rw [e1, hγn] at h1; cases h1
      rw [hγ j e2] at h2
      have := hgl j _ hj' h2; omega
    · rw [e2, hγn] at h2; cases h2
      rw [hγ i e1] at h1
      have := hgl i _ hi' h1; omega
    · rw [hγ i e1] at h1; rw [hγ j e2] at h2
      exact hC.inj i j g hi' hj' h1 h2
  · intro i g hi hg
    have hi' : i < s.hp.length := by simpa using hi
    by_cases e1 : i = id
    · rw [e1, hγn] at hg; cases hg
      refine ⟨fun hX => ?_, .inl hC.hsize⟩
      have := hC.xlt _ hX
      have := hC.hsize
      omega
    · rw [hγ i e1] at hg
      exact hC.own i g hi' hg
  · intro x hx hl
    have := Below.heap_alloc W.drew (.cells (ys2 ++ sp2).toArray b.ty) x (Nat.lt_of_lt_of_le hx hC.hsize)
    exact this.trans (hC.old x hx hl)
  · have := hC.hsize
    show _ ≤ (W.heap.push _).size
    simp; omega
  · exact hC.lent.keep hKeep
theorem append_core {id : Nat} {b : Blk} (hC : Conc C s γ κ a W) (hb : s.hp[id]? = some b) {x : Value} (hx : RepA (s.mm C γ κ W) (.os id b.rows.length) x) {t tx ty e : TypeId} {ie : TI} (hty : b.ty = e) (hsz : b.sz = ie.sz)
    (ht : C.P.underlying t = some (.slice e)) (hTe : TOk C.P e ie) {y : Value} {rows2 : List (List AV)} {news : List Value} (hsrc : Src C.P ie.sz tx y rows2.length news W)
    (hr2 : ∀ r ∈ rows2, r.length = ie.sz) (hc2 : ∀ c ∈ rows2.flatten, c.cell = true) (hrep : All2 (RepA (s.mm C γ κ W)) rows2.flatten news) (hbound : (b.rows.length + rows2.length) * ie.bytes ≤ 140737488355328) (hb63 : b.rows.length + rows2.length ≤ 9223372036854775807) :
    ∃ x' γ' κ' W', (Builtin.append_ #[t, tx] ty #[x, y]).run C.P W = .ok x' W' ∧ Conc C ⟨s.env, s.hp.set id ⟨b.ty, b.sz, b.rows ++ rows2⟩⟩ γ' κ' a W' ∧
      RepA (St.mm ⟨s.env, s.hp.set id ⟨b.ty, b.sz, b.rows ++ rows2⟩⟩ C γ' κ' W') (.os id (b.rows.length + rows2.length)) x' := by
  have hid : id < s.hp.length := (List.getElem?_eq_some_iff.1 hb).1
  have hB := hC.blk id b hb
  obtain ⟨it, z, i1, i2, i3, i4, i5⟩ := hTe.info
  obtain rfl := hx.os_val hb rfl
  have hr2' : ∀ r ∈ rows2, r.length = b.sz := by rw [hsz]; exact hr2
  have hsrc' : Src C.P it.size tx y rows2.length news W := by rw [i2]; exact hsrc
  have os_mk : ∀ {γ' κ' W'} {A : Option Addr} {c : Nat}, A = (γ' id).map (fun g => (⟨g, 0, none⟩ : Addr)) → c = κ' id → RepA (St.mm ⟨s.env, s.hp.set id ⟨b.ty, b.sz, b.rows ++ rows2⟩⟩ C γ' κ' W') (.os id (b.rows.length + rows2.length)) (.slice A (b.rows.length + rows2.length) c) := by
    intro γ' κ' W' A c h1 h2
    refine .os _ _ ⟨b.ty, b.sz, b.rows ++ rows2⟩ _ _ _ ?_ (by simp) fun _ => ⟨h1, rfl, h2⟩
    show (s.hp.set id _)[id]? = _
    rw [List.getElem?_set_self hid]
  by_cases hroom : b.rows.length + rows2.length ≤ κ id
  · cases hg : γ id with
    | some g =>
      obtain ⟨ys, sp, hmem, hlen, hys⟩ := hC.mem hb hg
      obtain ⟨c1, c2⟩ := hC.more hb hg hroom hr2' hc2 hrep
      have hyl : ys.length = b.rows.length * b.sz := by rw [← hys.length, flat_len hB.rows]
      have hnl : news.length = rows2.length * b.sz := by rw [← hrep.length, flat_len hr2']
      have hle : (b.rows.length + rows2.length) * b.sz ≤ κ id * b.sz := Nat.mul_le_mul_right _ hroom
      rw [Nat.add_mul] at hle
      have hlen' : ys.length + sp.length = κ id * b.sz := by rw [← hlen, List.length_append]
      refine ⟨_, γ, κ, _, ?_, c1, os_mk (by rw [hg]) rfl⟩
      have := run_append_room_src W t tx ty e it ht i1 g 0 b.rows.length (κ id) y rows2.length news hsrc' hroom (by
          intro j hj
          rw [blk_cell hmem, i2, ← hsz]
          simp only [List.getElem?_toArray, Nat.zero_add]
          rw [List.getElem?_eq_getElem (by omega)]; rfl) (by
          intro j hj
          exact blk_frozen hmem _)
      simp only [Nat.zero_add, i2, ← hsz] at this
      show (Builtin.append_ #[t, tx] ty #[.slice ((γ id).map _) _ (κ id), y]).run C.P W = _
      rw [hg]
      exact this
    | none =>
      rcases hB.mem with ⟨h1, h2, h3⟩ | ⟨g', ys, sp, h1, _⟩
      · have h3' : κ id = 0 := h3
        have h0 : rows2.length = 0 := by omega
        have hr : rows2 = [] := List.length_eq_zero_iff.1 h0
        subst hr
        have hn : news = [] := by cases hrep; rfl
        subst hn
        have e1 : (⟨s.env, s.hp.set id ⟨b.ty, b.sz, b.rows ++ []⟩⟩ : St) = s := by
          rw [List.append_nil]
          have : s.hp.set id b = s.hp := by
            apply List.ext_getElem?
            intro j
            by_cases e : id = j
            · subst e; rw [List.getElem?_set_self hid, hb]
            · rw [List.getElem?_set_ne e]
          show (⟨s.env, s.hp.set id b⟩ : St) = s
          rw [this]
        have hrun : (Builtin.append_ #[t, tx] ty #[.slice none b.rows.length 0, y]).run C.P W = .ok (.slice none (b.rows.length + 0) 0) W := by
          have hl := hsrc'.len
          have hcl := hsrc'.cells
          have hb0 : b.rows.length = 0 := by rw [h2]; rfl
          simp only [List.length_nil] at hl hcl
          rcases hsrc'.kind with ⟨e', hk⟩ | hk <;> simp [Builtin.append_, run_underlying ht, run_underlying hk, Go.sizeOf, typeInfo, i1, hl, hcl, hb0]
        refine ⟨.slice none (b.rows.length + 0) 0, γ, κ, W, ?_, by rw [e1]; exact hC, os_mk (by rw [hg]; rfl) h3'.symm⟩
        show (Builtin.append_ #[t, tx] ty #[.slice ((γ id).map _) _ (κ id), y]).run C.P W = _
        rw [hg, h3']
        exact hrun
      · have : γ id = some g' := h1
        rw [hg] at this; cases this
  · have hne : rows2 ≠ [] := by
      intro e
      subst e
      have h1 : b.rows.length ≤ κ id := hB.cap
      simp at hroom; omega
    obtain ⟨olds, ho1, ho2⟩ : ∃ olds, All2 (RepA (s.mm C γ κ W)) b.rows.flatten olds ∧ (Builtin.firstCells it.size b.rows.length (.slice ((γ id).map fun g => (⟨g, 0, none⟩ : Addr)) b.rows.length (κ id))).run C.P W.drew = .ok olds.toArray W.drew := by
      cases hg : γ id with
      | none =>
        rcases hB.mem with ⟨h1, h2, h3⟩ | ⟨g', ys, sp, h1, _⟩
        · refine ⟨[], by rw [h2]; exact .nil, ?_⟩
          rw [h2]
          exact run_firstCells_none W.drew it.size 0 0 (κ id)
        · have : γ id = some g' := h1
          rw [hg] at this; cases this
      | some g =>
        obtain ⟨ys, sp, hmem, hlen, hys⟩ := hC.mem hb hg
        refine ⟨ys, hys, ?_⟩
        refine run_firstCells_some W.drew it.size b.rows.length ⟨g, 0, none⟩ b.rows.length (κ id) ys ?_ ?_
        · rw [← hys.length, flat_len hB.rows, i2, hsz]
        · intro j u hj
          have : W.cell? ⟨g, 0 + j, none⟩ = some u := by
            rw [blk_cell hmem]
            simp only [List.getElem?_toArray, Nat.zero_add]
            rw [List.getElem?_append_left (List.getElem?_eq_some_iff.1 hj).1]; exact hj
          have e : (⟨g, 0, none⟩ : Addr).add j = ⟨g, 0 + j, none⟩ := by unfold Addr.add; split <;> simp_all
          rw [e]
          exact this
    have hrun := run_append_grow_src W t tx ty e it z ht i1 i4 ((γ id).map fun g => (⟨g, 0, none⟩ : Addr)) b.rows.length (κ id) olds ho2 y rows2.length news hsrc' (by omega) (by omega) (growslice_fits (by omega) (by rw [i3]; exact hbound))
    have hge := grownCap_ge W (b.rows.length + rows2.length) (κ id) e
    have hcm : grownCap W (b.rows.length + rows2.length) (κ id) e ≤ maxLen := grownCap_le_maxLen W _ (κ id) e (by simpa [maxLen] using hb63)
    have hzl : z.cells.size = ie.sz := by
      have := (constAVs_rep (M := s.mm C γ κ W) i5).length
      rw [hTe.zl] at this
      simpa using this.symm
    have hol : olds.length = b.rows.length * b.sz := by rw [← ho1.length, flat_len hB.rows]
    have hnl : news.length = rows2.length * b.sz := by rw [← hrep.length, flat_len hr2']
    generalize hcap : grownCap W (b.rows.length + rows2.length) (κ id) e = cap at hrun hge hcm
    obtain ⟨γ', κ', c1, c2, c3⟩ := hC.moved hb (rows2 := rows2) (ys2 := olds ++ news) (sp2 := (Builtin.zeroCells z.cells (cap - (b.rows.length + rows2.length))).toList) hge hcm (by
        simp only [List.length_append, Array.length_toList, size_zeroCells, hzl, hol, hnl, hsz]
        rw [← Nat.add_mul, ← Nat.add_mul]
        congr 1
        omega) hne hr2' hc2 (by rw [List.flatten_append]; exact ho1.append hrep)
    refine ⟨_, γ', κ', _, hrun, ?_, os_mk (by rw [c2]; rfl) c3.symm⟩
    have e2 : (olds ++ news).toArray ++ Builtin.zeroCells z.cells (cap - (b.rows.length + rows2.length)) = (olds ++ news ++ (Builtin.zeroCells z.cells (cap - (b.rows.length + rows2.length))).toList).toArray := by
      apply Array.toList_inj.1; simp
    rw [e2, ← hty]
    exact c1
end
end Go.Proofs.YtjjdabihnmilgaaGreat.A
namespace Go.Proofs.YtjjdabihnmilgaaGreat.A
open Go.RowKit
set_option linter.unusedVariables false
set_option linter.unusedSimpArgs false
section
variable {C : Cx} {s : St} {γ : Nat → Option Nat} {κ : Nat → Nat} {a : Act} {W : World} {o : Oper} {T : List (Nat × TI)}
theorem indexAt_run {P : Program} {t e : TypeId} {ie : TI} (ht : P.underlying t = some (.slice e)) (hTe : TOk P e ie) (ad : Addr) (n c : Nat) (k : IntKind) (j : Int) (h0 : 0 ≤ j) (h1 : j < n) (w : World) :
    (Instr.indexAt t (.slice (some ad) n c) (.int k j)).run P w = .ok (.pointer (some (ad.add (j.toNat * ie.sz)))) w := by
  have d0 : (decide (0 ≤ j) && decide (j < (n : Int))) = true := by simp [h0, h1]
  have hsz := hTe.sizeOf w
  unfold Instr.indexAt
  rw [run_bind (show (asIntOf (.int k j)).run P w = .ok (k, j) w from rfl)]
  have hu := und_run ht w
  go_simp
  done
theorem OpOK.index_imm (hT : TsOK C.P T) (hd : dok C.nt o.dst = true) {t e : TypeId} {x y : Operand} (ho : o.op = .indexAddr t x y) {i ie : TI} (hi : look T t = some i) (hk : i.kd = .sl e) (hie : look T e = some ie) {rows : List (List IV)} {k : IntKind} {j : Int} (hx : s.ev x = some (.imm (.sl rows))) (hy : s.ev y = some (.imm (.int k j)))
    (h0 : 0 ≤ j) {r : List IV} (hr : rows[j.toNat]? = some r) (hl : r.length = ie.sz) (hpos : 0 < ie.sz) : OpOK C s o (s.put o.dst (.pin r)) :=
  OpOK.quiet hd fun γ κ a W hC => by
    obtain ⟨d, d1, d2, _⟩ := (hT t i hi).und
    rw [hk] at d2
    obtain rfl := kd_sl d2
    have hjl : j.toNat < rows.length := (List.getElem?_eq_some_iff.1 hr).1
    have h1 := hC.ev hx
    have h2 := hC.ev hy
    cases h2 with
    | imm _ _ h2 =>
      have e2 := h2.int_inv
      cases h1 with
      | imm _ _ h1 =>
        generalize hxe : a.eval x = xv at h1
        cases h1 with
        | nil A c => simp at hr
        | sl _ ad n c sz ys g0 hsz hn hc hb hrl hyc hrep =>
          have esz : sz = ie.sz := by rw [← hl]; exact (hrl r (List.mem_of_getElem? hr)).symm
          subst esz
          refine ⟨.pointer (some (ad.add (j.toNat * ie.sz))), ?_, ?_⟩
          · unfold execOp; rw [ho]
            simp only [hxe, e2]
            exact val_run (indexAt_run d1 (hT e ie hie) ad n c k j h0 (by omega) W)
          · refine .pin r (ad.add (j.toNat * ie.sz)) ((ys.drop (j.toNat * ie.sz)).take ie.sz) (by intro e; rw [e] at hl; simp at hl; omega) (by rw [add_block]; exact hb) ?_ ?_
            · intro i y hy
              rw [List.getElem?_take] at hy
              split at hy
              · exact hyc.drop _ i y hy
              · cases hy
            · have := (hrep.drop (j.toNat * ie.sz)).take ie.sz
              rw [flat_row hrl hr] at this
              exact this
def atI {α : Type} [Inhabited α] (xs : List α) (j : Int) : α := xs.getD j.toNat default
theorem atI_get {α : Type} [Inhabited α] {xs : List α} {j : Int} (h0 : 0 ≤ j) (h1 : j < xs.length) : xs[j.toNat]? = some (atI xs j) := by
  unfold atI
  rw [List.getD_eq_getElem?_getD, List.getElem?_eq_getElem (by omega)]
  rfl
theorem OpOK.index_map (hT : TsOK C.P T) (hd : dok C.nt o.dst = true) {t e : TypeId} {x y : Operand} (ho : o.op = .indexAddr t x y) {i ie : TI} (hi : look T t = some i) (hk : i.kd = .sl e) (hie : look T e = some ie) {α : Type} [Inhabited α] {f : α → List IV} {xs : List α} {k : IntKind} {j : Int} (hx : s.ev x = some (.imm (.sl (xs.map f)))) (hy : s.ev y = some (.imm (.int k j)))
    (hl : ∀ q, (f q).length = ie.sz) (hpos : 0 < ie.sz) (h0 : 0 ≤ j) (h1 : j < xs.length) : OpOK C s o (s.put o.dst (.pin (f (atI xs j)))) :=
  OpOK.index_imm hT hd ho hi hk hie hx hy h0 (by rw [List.getElem?_map, atI_get h0 h1]; rfl) (hl _) hpos
theorem OpOK.index_own (hT : TsOK C.P T) (hd : dok C.nt o.dst = true) {t e : TypeId} {x y : Operand} (ho : o.op = .indexAddr t x y) {i ie : TI} (hi : look T t = some i) (hk : i.kd = .sl e) (hie : look T e = some ie) {id n : Nat} {k : IntKind} {j : Int} (hx : s.ev x = some (.os id n)) (hy : s.ev y = some (.imm (.int k j)))
    {b : Blk} (hb : nth s.hp id = some b) (hver : n = b.rows.length) (hsz : b.sz = ie.sz) (h0 : 0 ≤ j) (h1 : j < n) : OpOK C s o (s.put o.dst (.ptr id n j.toNat 0)) :=
  OpOK.quiet hd fun γ κ a W hC => by
    rw [nth_eq] at hb
    obtain ⟨d, d1, d2, _⟩ := (hT t i hi).und
    rw [hk] at d2
    obtain rfl := kd_sl d2
    have h2 := hC.ev hy
    have hxv := (hC.ev hx).os_val hb hver
    cases h2 with
    | imm _ _ h2 =>
      have e2 := h2.int_inv
      rcases (hC.blk id b hb).mem with ⟨g1, g2, g3⟩ | ⟨g, ys, sp, g1, g2, _⟩
      · rw [g2] at hver; simp at hver; omega
      · have g1' : γ id = some g := g1
        have hxv' : a.eval x = .slice (some ⟨g, 0, none⟩) n (κ id) := by
          rw [hxv]
          show Value.slice ((γ id).map _) n (κ id) = _
          rw [g1']; rfl
        refine ⟨.pointer (some ⟨g, j.toNat * b.sz + 0, none⟩), ?_, .ptr id n j.toNat 0 b _ hb (Nat.le_of_eq hver) fun _ => ⟨g, g1, rfl⟩⟩
        unfold execOp; rw [ho]
        simp only [hxv', e2]
        have := val_run (indexAt_run d1 (hT e ie hie) ⟨g, 0, none⟩ n (κ id) k j h0 (by omega) W)
        have e3 : (⟨g, 0, none⟩ : Addr).add (j.toNat * ie.sz) = ⟨g, j.toNat * b.sz + 0, none⟩ := by rw [hsz]; unfold Addr.add; split <;> simp_all
        rw [e3] at this
        exact this
-- cuts
def bnd (s : St) (x : Option Operand) (d : Int) : Option Int :=
  match x with
  | none => some d
  | some x => (match s.ev x with
    | some (.imm (.int _ n)) => some n
    | _ => none)
theorem bnd_run (hC : Conc C s γ κ a W) {x : Option Operand} {d j : Int} (h : bnd s x d = some j) : (x = none ∧ j = d) ∨ ∃ k y, x = some y ∧ a.eval y = .int k j := by
  unfold bnd at h
  split at h
  · exact .inl ⟨rfl, (Option.some.inj h).symm⟩
  · rename_i y
    split at h
    · rename_i k n hy
      obtain rfl := Option.some.inj h
      have h1 := hC.ev hy
      cases h1 with
      | imm _ _ h1 => exact .inr ⟨k, y, rfl, h1.int_inv⟩
    · cases h
theorem bounds_run {P : Program} (hC : Conc C s γ κ a W) {lo hi : Option Operand} {n c : Nat} {l h : Int} (hl : bnd s lo 0 = some l) (hh : bnd s hi n = some h) (h0 : 0 ≤ l) (h1 : l ≤ h) (h2 : h ≤ c) (hnc : n ≤ c) (w : World) :
    (Instr.sliceBounds true n c (lo.map a.eval) (hi.map a.eval) none).run P w = .ok (l.toNat, h.toNat, c) w := by
  have sb : ∀ (k : IntKind) (i : Int) (y : Nat) (code : BoundsCode), 0 ≤ i → i ≤ y → (Instr.sliceBound (.int k i) y code).run P w = .ok i.toNat w := by
    intro k i y code g0 g1
    unfold Instr.sliceBound
    simp [asIntOf, g0, g1, bind, Sem.bind, pure, Sem.run]
  unfold Instr.sliceBounds
  rcases bnd_run hC hl with ⟨rfl, rfl⟩ | ⟨k, y, rfl, hy⟩ <;> rcases bnd_run hC hh with ⟨rfl, rfl⟩ | ⟨k2, y2, rfl, hy2⟩
  · simp [bind, Sem.bind, pure, Sem.run]
  · have := sb k2 h c .sliceAcap (by omega) (by omega)
    simp only [Option.map_none, Option.map_some, hy2]
    show ((Instr.sliceBound (.int k2 h) c .sliceAcap) >>= fun h => pure (0, h, c)).run P w = _
    rw [run_bind this]; rfl
  · have := sb k l n .sliceB h0 (by omega)
    simp only [Option.map_none, Option.map_some, hy]
    show ((Instr.sliceBound (.int k l) n .sliceB) >>= fun l => pure (l, n, c)).run P w = _
    rw [run_bind this]; simp
  · have e1 := sb k2 h c .sliceAcap (by omega) (by omega)
    have e2 := sb k l h.toNat .sliceB h0 (by omega)
    simp only [Option.map_some, hy, hy2]
    show ((Instr.sliceBound (.int k2 h) c .sliceAcap) >>= fun h => (Instr.sliceBound (.int k l) h .sliceB) >>= fun l => pure (l, h, c)).run P w = _
    rw [run_bind e1, run_bind e2]; rfl
theorem OpOK.cut (hT : TsOK C.P T) (hd : dok C.nt o.dst = true) {t e : TypeId} {x : Operand} {lo hi : Option Operand} (ho : o.op = .slice t x lo hi none) {i ie : TI} (hi1 : look T t = some i) (hk : i.kd = .sl e) (hie : look T e = some ie) {rows : List (List IV)} (hx : s.ev x = some (.imm (.sl rows)))
    {l h : Int} (hl : bnd s lo 0 = some l) (hh : bnd s hi rows.length = some h) (hsz : ∀ r ∈ rows, r.length = ie.sz) (h0 : 0 ≤ l) (h1 : l ≤ h) (h2 : h ≤ rows.length) : OpOK C s o (s.put o.dst (.imm (.sl ((rows.take h.toNat).drop l.toNat)))) :=
  OpOK.quiet hd fun γ κ a W hC => by
    obtain ⟨d, d1, d2, _⟩ := (hT t i hi1).und
    rw [hk] at d2
    obtain rfl := kd_sl d2
    have h1x := hC.ev hx
    cases h1x with
    | imm _ _ h1x =>
      obtain ⟨A, c, hxe, hc⟩ := h1x.sl_inv
      have hb := bounds_run (P := C.P) hC hl hh h0 h1 (show h ≤ (c : Int) by omega) hc W
      have hs := (hT e ie hie).sizeOf W
      refine ⟨.slice (if c = l.toNat then A else A.map (·.add (l.toNat * ie.sz))) (h.toNat - l.toNat) (c - l.toNat), ?_, .imm _ _ ?_⟩
      · unfold execOp; rw [ho]
        simp only [hxe]
        refine val_run ?_
        unfold Instr.sliceAt
        rw [run_bind (und_run d1 W)]
        simp only
        unfold Instr.slice
        rw [run_bind (und_run d1 W)]
        simp only
        simp only [Option.map_none]
        rw [run_bind hb]
        simp only
        rw [run_bind hs]
        rfl
      · have hlen : ((rows.take h.toNat).drop l.toNat).length = h.toNat - l.toNat := by simp; omega
        by_cases he : h.toNat - l.toNat = 0
        · have : (rows.take h.toNat).drop l.toNat = [] := List.length_eq_zero_iff.1 (by omega)
          rw [this, he]
          exact .nil _ _
        · rw [hxe] at h1x
          cases h1x with
          | nil A c => simp at h2; omega
          | sl _ ad n c sz ys g0 gsz hn hc2 hbk hrl hyc hrep =>
            have esz : sz = ie.sz := by
              cases rows with
              | nil => exact absurd rfl g0
              | cons r l => rw [← hrl r (by simp)]; exact hsz r (by simp)
            subst esz
            rw [if_neg (by omega)]
            refine .sl _ (ad.add (l.toNat * ie.sz)) _ _ ie.sz (((ys.take (h.toNat * ie.sz))).drop (l.toNat * ie.sz)) (by intro e; rw [e] at hlen; simp at hlen; omega) gsz hlen.symm (by omega) (by rw [add_block]; exact hbk) (fun r hr => hrl r (List.mem_of_mem_take (List.mem_of_mem_drop hr))) ?_ ?_
            · have : CellsAt W ad (ys.take (h.toNat * ie.sz)) := by
                intro i y hy
                rw [List.getElem?_take] at hy
                split at hy
                · exact hyc i y hy
                · cases hy
              exact this.drop _
            · have key : ∀ (q : List (List IV)) (hq : ∀ r ∈ q, r.length = ie.sz) (m : Nat), (q.take m).flatten = q.flatten.take (m * ie.sz) ∧ (q.drop m).flatten = q.flatten.drop (m * ie.sz) := by
                intro q
                induction q with
                | nil => intro hq m; simp
                | cons r q ih =>
                  intro hq m
                  have hr := hq r (by simp)
                  cases m with
                  | zero => simp
                  | succ m =>
                    obtain ⟨k1, k2⟩ := ih (fun r h => hq r (by simp [h])) m
                    have e : (m + 1) * ie.sz = r.length + m * ie.sz := by rw [Nat.succ_mul, hr]; omega
                    constructor
                    · simp only [List.take_succ_cons, List.flatten_cons, k1]
                      rw [e, List.take_length_add_append]
                    · simp only [List.drop_succ_cons, List.flatten_cons, k2]
                      rw [e, ← List.drop_drop, List.drop_left]
              rw [(key _ (fun r h => hrl r (List.mem_of_mem_take h)) _).2, (key _ hrl _).1]
              exact (hrep.take _).drop _
theorem OpOK.cut_map (hT : TsOK C.P T) (hd : dok C.nt o.dst = true) {t e : TypeId} {x : Operand} {lo hi : Option Operand} (ho : o.op = .slice t x lo hi none) {i ie : TI} (hi1 : look T t = some i) (hk : i.kd = .sl e) (hie : look T e = some ie) {α : Type} {f : α → List IV} {xs : List α} (hx : s.ev x = some (.imm (.sl (xs.map f))))
    {l h : Int} (hl : bnd s lo 0 = some l) (hh : bnd s hi xs.length = some h) (hsz : ∀ q, (f q).length = ie.sz) (h0 : 0 ≤ l) (h1 : l ≤ h) (h2 : h ≤ xs.length) : OpOK C s o (s.put o.dst (.imm (.sl (((xs.take h.toNat).drop l.toNat).map f)))) := by
  have := OpOK.cut hT hd ho hi1 hk hie hx hl (by rw [List.length_map]; exact hh) (fun r hr => by obtain ⟨q, _, rfl⟩ := List.mem_map.1 hr; exact hsz q) h0 h1 (by rw [List.length_map]; exact h2)
  rwa [← List.map_take, ← List.map_drop] at this
-- guards
def dstOf (l : List Oper) (j : Nat) : Option Nat :=
  match nth l j with
  | some o => o.dst
  | none => none
def awant (l : List Oper) (s : St) (o : Oper) : Option Bool :=
  match o.guard with
  | none => some true
  | some (j, want) => match dstOf l j with
    | none => some false
    | some d => match get s.env d with
      | some (.imm (.bool b)) => some (b == want)
      | some .undef => some false
      | _ => none
theorem awant_ok (hC : Conc C s γ κ a W) {l : List Oper} {b : Bool} (h : awant l s o = some b) : Region.wanted o (yielded l.toArray a.tmps) = b := by
  unfold awant at h
  unfold Region.wanted
  split at h
  · rename_i hg
    rw [hg]
    exact Option.some.inj h
  · rename_i j want hg
    rw [hg]
    simp only
    unfold yielded
    rw [List.getElem?_toArray]
    unfold dstOf at h
    rw [nth_eq] at h
    split at h
    · rename_i hd
      cases hj : l[j]? with
      | none => simp; exact (Option.some.inj h).symm
      | some q =>
        rw [hj] at hd
        simp only at hd
        simp [hd]
        exact (Option.some.inj h).symm
    · rename_i d hd
      cases hj : l[j]? with
      | none => rw [hj] at hd; cases hd
      | some q =>
        rw [hj] at hd
        simp only at hd
        simp only [Option.bind_some, hd]
        split at h
        · rename_i b' hb
          obtain ⟨x, h1, h2⟩ := hC.env d _ hb
          cases h2 with
          | imm _ _ h2 =>
            have := h2.bool_inv
            subst this
            rw [h1]
            simp only
            rw [← Option.some.inj h]
            cases b' <;> cases want <;> rfl
        · rename_i hb
          obtain ⟨x, h1, h2⟩ := hC.env d _ hb
          cases h2
          rw [h1]
          rw [← Option.some.inj h]
          simp [undef]
        · cases h
variable {l rest : List Oper} {Q : Exit → St → Prop}
theorem AL.op {s1 : St} (hw : awant l s o = some true) (h : OpOK C s o s1) (k : AL C l Q rest s1) : AL C l Q (o :: rest) s := by
  intro γ κ a W hC
  refine wpList_step fun K hK => ?_
  rw [if_pos (awant_ok hC hw)]
  exact h γ κ a W hC K _ fun γ' κ' a' W' hC' => hK _ _ (k γ' κ' a' W' hC')
theorem AL.skip (hw : awant l s o = some false) (hd : dok C.nt o.dst = true) (k : AL C l Q rest (s.put o.dst .undef)) : AL C l Q (o :: rest) s := by
  intro γ κ a W hC
  refine wpList_step fun K hK => ?_
  rw [if_neg (by rw [awant_ok hC hw]; simp)]
  exact hK _ _ (k γ κ _ _ (hC.put hd .undef))
theorem Conc.sub_env {s1 : St} (hC : Conc C s γ κ a W) (hhp : s1.hp = s.hp) (h : ∀ t v, get s1.env t = some v → ∃ x, a.tmps[t]? = some x ∧ RepA (s.mm C γ κ W) v x) : Conc C s1 γ κ a W := by
  obtain ⟨e1, h1⟩ := s1
  simp only at hhp
  subst hhp
  exact ⟨hC.size, hC.defers, h, hC.blk, hC.inj, hC.own, hC.xlt, hC.old, hC.hos, hC.htape, hC.hout, hC.hsize, hC.lent⟩
/-- A slot's bool, known now. -/
theorem AL.split (d : Nat) {b : Bool} (hb : get s.env d = some (.imm (.bool b))) (h1 : b = true → AL C l Q rest ⟨(d, .imm (.bool true)) :: s.env, s.hp⟩) (h2 : b = false → AL C l Q rest ⟨(d, .imm (.bool false)) :: s.env, s.hp⟩) : AL C l Q rest s := by
  intro γ κ a W hC
  have key : ∀ c : Bool, b = c → Conc C ⟨(d, .imm (.bool c)) :: s.env, s.hp⟩ γ κ a W := by
    intro c e
    subst e
    refine hC.sub_env rfl fun t v h => ?_
    simp only [get] at h
    split at h
    · rename_i e
      have e := Nat.eq_of_beq_eq_true e
      subst e
      obtain rfl := Option.some.inj h
      exact hC.env _ _ hb
    · exact hC.env t v h
  cases hbb : b with
  | true => exact h1 hbb γ κ a W (key true hbb)
  | false => exact h2 hbb γ κ a W (key false hbb)
theorem AW.condT {c : Operand} {x y : Code} (hc : s.ev c = some (.imm (.bool true))) (h : AW C x Q s) : AW C (.cond c x y) Q s := AW.cond hc (fun _ => h) (fun e => by cases e)
theorem AW.condF {c : Operand} {x y : Code} (hc : s.ev c = some (.imm (.bool false))) (h : AW C y Q s) : AW C (.cond c x y) Q s := AW.cond hc (fun e => by cases e) (fun _ => h)
end
end Go.Proofs.YtjjdabihnmilgaaGreat.A
