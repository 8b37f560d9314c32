/- The abstract walk, part H: struct and slice literals. -/
import Derived.Test.YteijifoobaoclaaGreatAwG
import Derived.Laws.Tables
namespace Go.Proofs.YteijifoobaoclaaGreat.A
open Go.RowKit
set_option linter.unusedVariables false
set_option linter.unusedSimpArgs false
section
variable {C : Cx} {s : St} {γ : Nat → Option Nat} {κ : Nat → Nat} {a : Act} {W : World} {o : Oper} {T : List (Nat × TI)}
def aFill (place : Nat → Option (Nat × Nat)) : List AV → List (Nat × AV) → Option (List AV)
  | l, [] => some l
  | l, (i, v) :: r => match place i with
    | none => none
    | some (off, n) => match Nat.beq (len (avCells v)) n && Nat.ble (off + n) (len l) with
      | true => aFill place (spl l off (avCells v)) r
      | false => none
theorem foldl_spl (off : Nat) : ∀ (vs : List Value) (j : Nat) (cs : Array Value), off + j + vs.length ≤ cs.size →
    ((vs.zipIdx j).foldl (fun cs (x : Value × Nat) => cs.setIfInBounds (off + x.2) x.1) cs).toList = cs.toList.take (off + j) ++ vs ++ cs.toList.drop (off + j + vs.length)
  | [], j, cs, h => by simp
  | v :: vs, j, cs, h => by
    simp only [List.length_cons] at h
    simp only [List.zipIdx_cons, List.foldl_cons]
    rw [foldl_spl off vs (j + 1) _ (by simp; omega)]
    rw [Array.toList_setIfInBounds]
    rw [List.take_set, List.drop_set_of_lt (by omega)]
    have e0 : off + (j + 1) = off + j + 1 := by omega
    rw [e0, List.take_succ_eq_append_getElem (by simp; omega)]
    have e3 : (List.take (off + j) cs.toList ++ [cs.toList[off + j]'(by simp; omega)]).set (off + j) v = List.take (off + j) cs.toList ++ [v] := by
      rw [List.set_append, if_neg (by simp; omega)]
      simp only [List.length_take, Array.length_toList]
      rw [Nat.min_eq_left (by omega)]
      simp
    rw [e3]
    simp only [List.length_cons, List.append_assoc, List.cons_append, List.nil_append]
    rw [show off + j + 1 + vs.length = off + j + (vs.length + 1) by omega]
theorem fill_ok {M : Mm} {place place' : Nat → Option (Nat × Nat)} (hp : ∀ i z, place i = some z → place' i = some z) : ∀ {ps : List (Nat × AV)} {qs : List (Nat × Value)} (_ : All2 (fun p q => p.1 = q.1 ∧ RepA M p.2 q.2) ps qs) {l l' : List AV} {cs : Array Value},
    All2 (RepA M) l cs.toList → aFill place l ps = some l' → ∃ cs', Instr.fill place' cs qs = some cs' ∧ All2 (RepA M) l' cs'.toList
  | [], qs, h, l, l', cs, hl, hf => by
    cases h
    simp only [aFill, Option.some.injEq] at hf
    subst hf
    exact ⟨cs, rfl, hl⟩
  | (i, v) :: ps, qs, h, l, l', cs, hl, hf => by
    cases h with
    | @cons _ q _ qs h1 h2 =>
      obtain ⟨j, x⟩ := q
      obtain ⟨rfl, hv⟩ : i = j ∧ RepA M v x := h1
      simp only [aFill] at hf
      split at hf
      · cases hf
      · rename_i off n hpl
        split at hf
        · rename_i hc
          simp only [Bool.and_eq_true] at hc
          have e1 := Nat.eq_of_beq_eq_true hc.1
          have e2 := Nat.le_of_ble_eq_true hc.2
          rw [len_eq] at e1 e2
          have hcs := hv.cells
          have hsz : x.cells.size = n := by rw [← e1, hcs.length, Array.length_toList]
          have hll : cs.size = l.length := by rw [hl.length, Array.length_toList]
          have hcells := foldl_spl off x.cells.toList 0 cs (by simp; omega)
          simp only [Nat.add_zero] at hcells
          have hrep : All2 (RepA M) (spl l off (avCells v)) ((x.cells.toList.zipIdx 0).foldl (fun cs (x : Value × Nat) => cs.setIfInBounds (off + x.2) x.1) cs).toList := by
            rw [hcells, spl_eq (by omega), hcs.length]
            exact ((hl.take _).append hcs).append (hl.drop _)
          obtain ⟨cs', g1, g2⟩ := fill_ok hp h2 hrep hf
          refine ⟨cs', ?_, g2⟩
          unfold Instr.fill
          rw [hp _ _ hpl]
          simp only
          rw [if_neg (by simp; omega)]
          rw [← g1]
          congr 1
          rw [← Array.foldl_toList]
          simp only [Array.toList_zipIdx]
        · cases hf
def evps (s : St) : List (Nat × Operand) → Option (List (Nat × AV))
  | [] => some []
  | (i, x) :: l => match s.ev x with
    | none => none
    | some v => match evps s l with
      | none => none
      | some vs => some ((i, v) :: vs)
theorem Conc.evps (hC : Conc C s γ κ a W) : ∀ {l : List (Nat × Operand)} {vs : List (Nat × AV)}, A.evps s l = some vs → All2 (fun p q => p.1 = q.1 ∧ RepA (s.mm C γ κ W) p.2 q.2) vs (l.map fun (i, x) => (i, a.eval x))
  | [], vs, h => by simp only [A.evps, Option.some.injEq] at h; subst h; exact .nil
  | (i, x) :: l, vs, h => by
    simp only [A.evps] at h
    split at h
    · cases h
    · rename_i v hv
      split at h
      · cases h
      · rename_i vs' hvs
        obtain rfl := Option.some.inj h
        exact .cons ⟨rfl, hC.ev hv⟩ (hC.evps hvs)
theorem places_eq {P : Program} : ∀ {fs : List Field} {l : List (Nat × Nat × Bool)}, fs.mapM (fldOf P) = some l → fs.mapM (fun f => (P.info? f.type).map fun i => (f.offset, i.size)) = some (l.map fun z => (z.1, z.2.1))
  | [], l, h => by simp at h; subst h; rfl
  | fd :: fs, l, h => by
    simp only [List.mapM_cons] at h ⊢
    cases h1 : fldOf P fd with
    | none => rw [h1] at h; simp at h
    | some q =>
      rw [h1] at h
      cases h2 : fs.mapM (fldOf P) with
      | none => rw [h2] at h; simp at h
      | some l' =>
        rw [h2] at h
        simp at h
        subst h
        rw [places_eq h2]
        have : (P.info? fd.type).map (fun i => (fd.offset, i.size)) = some (q.1, q.2.1) := by
          unfold fldOf at h1
          cases hi : P.info? fd.type with
          | none => rw [hi] at h1; simp at h1
          | some info =>
            rw [hi] at h1
            simp only [Option.map_some] at h1 ⊢
            split at h1
            · rename_i e1 e2
              obtain rfl := Option.some.inj e1
              obtain rfl := Option.some.inj h1
              rfl
            · rename_i e1 _
              obtain rfl := Option.some.inj e1
              obtain rfl := Option.some.inj h1
              rfl
            · cases h1
        rw [this]
        rfl
def fplace (i : TI) (f : Nat) : Option (Nat × Nat) :=
  match nth i.flds f with
  | some (o, n, _) => some (o, n)
  | none => none
theorem TOk.info {P : Program} {t : TypeId} {i : TI} (h : TOk P t i) : ∃ it z, P.info? t = some it ∧ it.size = i.sz ∧ it.bytes = i.bytes ∧ it.zero = some z ∧ constAVs z.cells.toList = some i.zero := by
  obtain ⟨z, h1, h2⟩ := h.zero
  obtain ⟨info, h3, h4⟩ := Option.bind_eq_some_iff.1 h1
  have h5 := h.size
  have h6 := h.bytes
  rw [h3] at h5 h6
  exact ⟨info, z, h3, by simpa using h5, by simpa using h6, h4, h2⟩
theorem OpOK.build (hT : TsOK C.P T) (hd : dok C.nt o.dst = true) {t : TypeId} {ps : Array (Nat × Operand)} (ho : o.op = .build t ps) {i : TI} (hi : look T t = some i) (hne : i.flds ≠ []) {vs : List (Nat × AV)} (hx : evps s ps.toList = some vs) {l : List AV} (h : aFill (fplace i) i.zero vs = some l) : OpOK C s o (s.put o.dst (.agg l)) :=
  OpOK.quiet hd fun γ κ a W hC => by
    have hT' := hT t i hi
    obtain ⟨it, z, h1, h2, _, h3, h4⟩ := hT'.info
    obtain ⟨d, d1, d2, d3⟩ := hT'.und
    have hst : ∃ fs, d = .struct fs ∧ fs.toList.mapM (fldOf C.P) = some i.flds := by
      cases d <;> first | (exact ⟨_, rfl, d3⟩) | (simp [fldsOf] at d3; exact absurd d3.symm (by intro e; exact hne e.symm)) | (simp [fldsOf] at d3; exact absurd d3.symm hne)
    obtain ⟨fs, rfl, hfl⟩ := hst
    obtain ⟨cs', g1, g2⟩ := fill_ok (M := s.mm C γ κ W) (place := fplace i) (place' := fun x => (i.flds.map fun z => (z.1, z.2.1)).toArray[x]?) (by
      intro f z hz
      unfold fplace at hz
      split at hz
      · rename_i o n g hn
        rw [nth_eq] at hn
        obtain rfl := Option.some.inj hz
        simp [hn]
      · cases hz) (hC.evps hx) (constAVs_rep h4) h
    refine ⟨.agg cs', ?_, ?_⟩
    · unfold execOp; rw [ho]
      refine val_run (run_build W t _ cs' ?_)
      unfold Program.built
      rw [h1, d1]
      simp only [h3, places_eq hfl]
      rw [← g1]
      congr 1
      simp
    · have e : cs' = cs'.toList.toArray := by simp
      rw [e]
      exact .agg _ _ (by simpa using g2)
def chunk : Nat → Nat → List AV → List (List AV)
  | 0, _, _ => []
  | n + 1, sz, l => l.take sz :: chunk n sz (l.drop sz)
theorem chunk_flat : ∀ (n sz : Nat) (l : List AV), l.length = n * sz → (chunk n sz l).flatten = l ∧ (chunk n sz l).length = n ∧ ∀ r ∈ chunk n sz l, r.length = sz
  | 0, sz, l, h => by
    have : l = [] := List.length_eq_zero_iff.1 (by simpa using h)
    subst this
    simp [chunk]
  | n + 1, sz, l, h => by
    rw [Nat.succ_mul] at h
    obtain ⟨h1, h2, h3⟩ := chunk_flat n sz (l.drop sz) (by simp; omega)
    refine ⟨by simp [chunk, h1], by simp [chunk, h2], fun r hr => ?_⟩
    simp only [chunk, List.mem_cons] at hr
    rcases hr with e | e
    · subst e; simp; omega
    · exact h3 r e
def reps (n : Nat) (l : List AV) : List AV :=
  match n with
  | 0 => []
  | n + 1 => l ++ reps n l
/-- A slice literal: an own row. -/
def aLit (s : St) (ty : TypeId) (sz n : Nat) (l : List AV) : Option (AV × St) :=
  match Nat.blt 0 sz && Nat.beq (len l) (n * sz) && l.all AV.cell with
  | true => (match s with
    | ⟨e, h⟩ => some (.os (len h) n, ⟨e, h ++ [⟨ty, sz, chunk n sz l⟩]⟩))
  | false => none
theorem madeCells_rep {M : Mm} {l : List AV} {z : List Value} (h : All2 (RepA M) l z) : ∀ n : Nat, All2 (RepA M) (reps n l) ((Array.range (n * z.length)).map fun i => z.toArray[i % z.toArray.size]!).toList
  | 0 => by simp [reps]; exact .nil
  | n + 1 => by
    have ih := madeCells_rep h n
    have e : ((Array.range ((n + 1) * z.length)).map fun i => z.toArray[i % z.toArray.size]!).toList = z ++ ((Array.range (n * z.length)).map fun i => z.toArray[i % z.toArray.size]!).toList := by
      simp only [Array.toList_map, Array.toList_range, List.size_toArray]
      rw [Nat.succ_mul, Nat.add_comm, List.range_add, List.map_append, List.map_map]
      congr 1
      · apply List.ext_getElem?
        intro j
        rw [List.getElem?_map]
        rcases Nat.lt_or_ge j z.length with hj | hj
        · rw [List.getElem?_range hj]
          simp only [Option.map_some]
          rw [Nat.mod_eq_of_lt hj]
          simp [hj]
        · rw [List.getElem?_eq_none (by simpa using hj), List.getElem?_eq_none hj]
          rfl
      · apply List.map_congr_left
        intro j hj
        simp
    rw [e]
    exact h.append ih
theorem OpOK.buildSlice (hT : TsOK C.P T) (hd : dok C.nt o.dst = true) {t e : TypeId} {n : Nat} {ps : Array (Nat × Operand)} (ho : o.op = .buildSlice t n ps) {i ie : TI} (hi : look T t = some i) (hk : i.kd = .sl e) (hie : look T e = some ie) {vs : List (Nat × AV)} (hx : evps s ps.toList = some vs)
    {l : List AV} (h : aFill (fun j => some (j * ie.sz, ie.sz)) (reps n ie.zero) vs = some l) (hn : n * ie.sz ≤ 16777216) {v : AV} {s1 : St} (hl : aLit s e ie.sz n l = some (v, s1)) : OpOK C s o (s1.put o.dst v) :=
  OpOK.val hd fun γ κ a W hC => by
    have hT' := hT t i hi
    have hTe := hT e ie hie
    obtain ⟨it, z, h1, h2, _, h3, h4⟩ := hTe.info
    obtain ⟨d, d1, d2, d3⟩ := hT'.und
    rw [hk] at d2
    obtain rfl := kd_sl d2
    obtain ⟨z', hz1, hz2⟩ := hTe.zeroValue
    have hzl : z'.cells.toList.length = ie.zero.length := (constAVs_rep (M := s.mm C γ κ W) hz1).length.symm
    unfold aLit at hl
    split at hl
    · rename_i hc
      simp only [Bool.and_eq_true, Nat.blt_eq, List.all_eq_true] at hc
      obtain ⟨⟨c1, c2⟩, c3⟩ := hc
      have c2 := Nat.eq_of_beq_eq_true c2
      rw [len_eq] at c2
      obtain ⟨rfl, rfl⟩ : _ = v ∧ _ = s1 := by simpa using hl
      have hmade := madeCells_rep (constAVs_rep (M := s.mm C γ κ W) hz1) n
      have hz0 : ∃ zc : Array Value, ((n * ie.sz = 0 ∧ zc = #[]) ∨ (n * ie.sz ≠ 0 ∧ zc = z'.cells)) ∧ All2 (RepA (s.mm C γ κ W)) (reps n ie.zero) ((Array.range (n * ie.sz)).map (zc[· % zc.size]!)).toList := by
        by_cases h0 : n * ie.sz = 0
        · have hn0 : n = 0 := by
            rcases Nat.eq_zero_or_pos n with e | e
            · exact e
            · exact absurd h0 (Nat.ne_of_gt (Nat.mul_pos e c1))
          subst hn0
          refine ⟨#[], .inl ⟨h0, rfl⟩, ?_⟩
          simp [reps]; exact .nil
        · refine ⟨z'.cells, .inr ⟨h0, rfl⟩, ?_⟩
          have e1 : n * ie.sz = n * z'.cells.toList.length := by rw [hzl, hTe.zl]
          rw [e1]
          simpa using hmade
      obtain ⟨zc, hr1, hr2⟩ := hz0
      obtain ⟨cs', g1, g2⟩ := fill_ok (place' := fun j => some (j * ie.sz, ie.sz)) (fun i z h => h) (hC.evps hx) hr2 h
      have hnm : n ≤ maxLen := by
        have h1 : n ≤ n * ie.sz := Nat.le_mul_of_pos_right n c1
        have h2 : (16777216 : Nat) ≤ maxLen := by decide
        omega
      obtain ⟨γ', κ', k1, k2, k3, k4⟩ := hC.alloc ⟨e, ie.sz, chunk n ie.sz l⟩ cs'.toList [] n c1 (chunk_flat n ie.sz l c2).2.2 (by rw [(chunk_flat n ie.sz l c2).1]; exact c3) (Nat.le_of_eq (chunk_flat n ie.sz l c2).2.1) hnm (by rw [List.append_nil, ← g2.length, c2]) (by rw [(chunk_flat n ie.sz l c2).1]; exact g2)
      simp only [List.append_nil, Array.toArray_toList] at k1 k4
      refine ⟨.slice (some ⟨W.heap.size, 0, none⟩) n n, γ', κ', _, ?_, k1, ?_⟩
      · unfold execOp; rw [ho]
        refine val_run ?_
        unfold Instr.buildSlice
        rw [run_bind (und_run d1 W)]
        simp only
        rw [run_bind (hTe.sizeOf W), if_neg (by omega)]
        have e3 : (ps.map fun x : Nat × Operand => (x.1, a.eval x.2)).toList = ps.toList.map fun (i, x) => (i, a.eval x) := by simp
        rw [e3]
        rcases hr1 with ⟨h0, rfl⟩ | ⟨h0, rfl⟩
        · rw [if_pos h0, run_bind (run_pure _ _), g1]; rfl
        · rw [if_neg h0, run_bind (hz2 W), run_bind (run_pure _ _), g1]; rfl
      · rw [len_eq]
        refine .os s.hp.length n ⟨e, ie.sz, chunk n ie.sz l⟩ _ _ _ ?_ (Nat.le_of_eq (chunk_flat n ie.sz l c2).2.1.symm) fun _ => ⟨?_, rfl, ?_⟩
        · show (s.hp ++ [_])[s.hp.length]? = _
          simp
        · show _ = (γ' s.hp.length).map _
          rw [k2]; rfl
        · show n = κ' s.hp.length
          rw [k3]
    · cases hl
end
end Go.Proofs.YteijifoobaoclaaGreat.A
