/- The abstract walk, part U: own blocks in a region that draws its order; '==' of structs; a slice held against nil. -/
import Derived.Test.YtmhejcnaanocpaaGreatCDOneGrpAF
import Derived.Laws.StructEq
namespace Go.Proofs.YtmhejcnaanocpaaGreat.A
open Go.RowKit
set_option linter.unusedVariables false
set_option linter.unusedSimpArgs false
section
variable {C : Cx} {s : St} {γ : Nat → Option Nat} {κ : Nat → Nat} {a : Act} {W : World} {o : Oper} {T : List (Nat × TI)} {l : List Oper} {Q : Exit → St → Prop}
theorem AW.reserve {c : Code} (ty sz : Nat) (hpos : Nat.blt 0 sz = true) (h : AW C c Q ⟨s.env, s.hp ++ [⟨ty, sz, []⟩]⟩) : AW C c Q s := by
  refine AW.weak (fun γ κ a W hC => ?_) h
  rw [Nat.blt_eq] at hpos
  obtain ⟨γ', κ', h1, _⟩ := hC.reserve ty sz hpos
  exact ⟨γ', κ', h1⟩
/-- The same memory, drawn otherwise. -/
theorem Conc.alike {W' : World} (hC : Conc C s γ κ a W) (h1 : W'.heap = W.heap) (h2 : W'.os = W.os) (h3 : W'.tape = W.tape) (h4 : W'.output = W.output) : Conc C s γ κ a W' :=
  hC.below ⟨h2, h3, h4, by rw [h1]; exact Nat.le_refl _, fun k _ => by rw [h1]⟩
/-- A new block in a place that was kept for it. -/
theorem Conc.place (hC : Conc C s γ κ a W) {p ty sz : Nat} (hp : s.hp[p]? = some ⟨ty, sz, []⟩) {rows : List (List AV)} {ys sp : List Value} {k : Nat} (hk : rows.length ≤ k) (hkm : k ≤ maxLen) (hlen : (ys ++ sp).length = k * sz) (hne : rows ≠ [])
    (hr : ∀ r ∈ rows, r.length = sz) (hc : ∀ c ∈ rows.flatten, c.cell = true) (hrep : All2 (RepA (s.mm C γ κ W)) rows.flatten ys) :
    ∃ γ' κ', Conc C ⟨s.env, s.hp.set p ⟨ty, sz, rows⟩⟩ γ' κ' a (W.alloc (.cells (ys ++ sp).toArray ty)) ∧ γ' p = some W.heap.size ∧ κ' p = k := by
  obtain ⟨γ', κ', h1, h2, h3⟩ := hC.moved hp (rows2 := rows) (ys2 := ys) (sp2 := sp) (by simpa using hk) hkm hlen hne hr hc (by simpa using hrep)
  simp only [List.nil_append] at h1
  exact ⟨γ', κ', h1.alike rfl rfl rfl rfl, h2, h3⟩
theorem OpOK.newAt {p ty sz : Nat} (hd : dok C.nt o.dst = true) (hp : s.hp[p]? = some ⟨ty, sz, []⟩) {cells : List AV} (hl : cells.length = sz) (hcell : cells.all AV.cell = true)
    (h : ∀ γ κ a W, Conc C s γ κ a W → ∃ xs, All2 (RepA (s.mm C γ κ W)) cells xs ∧ (execOp a.eval o).run C.P W = .ok (.value (.pointer (some ⟨W.heap.size, 0, none⟩))) (W.alloc (.cells xs.toArray ty))) :
    OpOK C s o (St.put ⟨s.env, s.hp.set p ⟨ty, sz, [cells]⟩⟩ o.dst (.ptr p 1 0 0)) :=
  OpOK.val hd fun γ κ a W hC => by
    obtain ⟨xs, h1, h2⟩ := h γ κ a W hC
    obtain ⟨γ', κ', c1, c2, c3⟩ := hC.place hp (rows := [cells]) (ys := xs) (sp := []) (k := 1) (by simp) (by decide) (by rw [List.append_nil, ← h1.length, hl]; omega) (by simp) (by simpa using hl) (by simpa using hcell) (by simpa using h1)
    rw [List.append_nil] at c1
    refine ⟨_, γ', κ', _, h2, c1, ?_⟩
    have hpl : p < s.hp.length := (List.getElem?_eq_some_iff.1 hp).1
    refine .ptr p 1 0 0 ⟨ty, sz, [cells]⟩ _ ?_ (Nat.le_refl _) fun _ => ⟨W.heap.size, c2, by simp⟩
    show (s.hp.set p _)[p]? = _
    rw [List.getElem?_set_self hpl]
theorem LS.alloc (p : Nat) (hT : TsOK C.P T) (hw : awant l s o = some true) (hd : dok C.nt o.dst = true) {t : TypeId} (ho : o.op = .alloc t) {i : TI} (hi : look T t = some i) (hp : nth s.hp p = some ⟨t, i.sz, []⟩) (hcell : i.zero.all AV.cell = true) : LS C l s o (mkFx l s o (.blk p ⟨t, i.sz, [i.zero]⟩ (.ptr p 1 0 0)) [p]) :=
  LS.blk [p] hw fun s' hl => by
    have hp' := (hl.xb p (by simp)).trans hp
    rw [nth_eq] at hp'
    refine OpOK.newAt hd hp' (hT t i hi).zl hcell fun γ κ a W hC => ?_
    obtain ⟨z, h1, h2⟩ := (hT t i hi).zeroValue
    refine ⟨_, constAVs_rep h1, ?_⟩
    unfold execOp; rw [ho]
    refine val_run ?_
    unfold Instr.alloc
    rw [run_bind (h2 W), Array.toArray_toList]
    rfl
theorem LS.box (p : Nat) (hw : awant l s o = some true) (hd : dok C.nt o.dst = true) {t : TypeId} {x : Operand} (ho : o.op = .box t x) {q : AV} (hx : s.ev x = some q) {sz : Nat} (hp : nth s.hp p = some ⟨t, sz, []⟩) (hl : Nat.beq (len (avCells q)) sz = true) (hcell : (avCells q).all AV.cell = true) : LS C l s o (mkFx l s o (.blk p ⟨t, sz, [avCells q]⟩ (.ptr p 1 0 0)) [p]) :=
  LS.blk [p] hw fun s' hl' => by
    have hp' := (hl'.xb p (by simp)).trans hp
    rw [nth_eq] at hp'
    have hl := Nat.eq_of_beq_eq_true hl
    rw [len_eq] at hl
    refine OpOK.newAt hd hp' hl hcell fun γ κ a W hC => ?_
    have hx' := (hl'.ev x (by rw [ho]; simp [Op.operands])).trans hx
    refine ⟨_, (hC.ev hx').cells, ?_⟩
    unfold execOp; rw [ho]
    refine val_run ?_
    unfold Instr.box
    rw [Array.toArray_toList]
    rfl
theorem LS.store (hT : TsOK C.P T) (hw : awant l s o = some true) (hd : o.dst = none) {t : TypeId} {p x : Operand} (ho : o.op = .store t p x) {i : TI} (hi : look T t = some i) {id ver row off : Nat} (hp : s.ev p = some (.ptr id ver row off)) {v : AV} (hx : s.ev x = some v)
    {ty sz : Nat} {rows : List (List AV)} (hb : nth s.hp id = some ⟨ty, sz, rows⟩) (hver : ver = rows.length) (hlen : (avCells v).length = i.sz) (hcell : (avCells v).all AV.cell = true) (hfit : off + i.sz ≤ sz) {r : List AV} (hr : rows[row]? = some r) :
    LS C l s o (mkFx l s o (.blk id ⟨ty, sz, rows.set row (putRow sz i.sz r off (avCells v))⟩ .undef) []) :=
  LS.blk [] hw fun s' hl => by
    have hb' := (hl.hp p (by rw [ho]; simp [Op.operands]) _ hp id (by simp [refs])).trans hb
    rw [nth_eq] at hb'
    have := OpOK.store_own hT hd ho hi ((hl.ev p (by rw [ho]; simp [Op.operands])).trans hp) ((hl.ev x (by rw [ho]; simp [Op.operands])).trans hx) hb' hver hlen hcell hfit hr
    rw [hd]
    exact this
theorem LS.append_os (hT : TsOK C.P T) (hw : awant l s o = some true) (hd : dok C.nt o.dst = true) {x y : Operand} {t tx e : TypeId} (ho : o.op = .call ⟨.builtin .append, #[x, y], #[t, tx]⟩) {i ie : TI} (hi : look T t = some i) (hk : i.kd = .sl e) (hie : look T e = some ie) {id n : Nat} (hx : s.ev x = some (.os id n))
    {ty sz : Nat} {rows : List (List AV)} (hb : nth s.hp id = some ⟨ty, sz, rows⟩) (hver : n = rows.length) (hty : ty = e) (hsz : sz = ie.sz) {rows2 : List (List AV)} (hsrc : ∀ s', Loc l s s' o [] → SrcA C s' ie tx y rows2) (hbound : (rows.length + rows2.length) * ie.bytes ≤ 140737488355328) (h63 : rows.length + rows2.length ≤ 9223372036854775807) :
    LS C l s o (mkFx l s o (.blk id ⟨ty, sz, rows ++ rows2⟩ (.os id (n + rows2.length))) []) :=
  LS.blk [] hw fun s' hl => by
    have hxm : x ∈ o.op.operands.toList := by rw [ho]; simp [Op.operands, Call.operands]
    have hb' := (hl.hp x hxm _ hx id (by simp [refs])).trans hb
    exact OpOK.append_os hT hd ho hi hk hie ((hl.ev x hxm).trans hx) hb' hver hty hsz (hsrc s' hl) hbound h63
/-- A slice literal in a place that was kept for it. -/
theorem LS.lit (p : Nat) (hT : TsOK C.P T) (hw : awant l s o = some true) (hd : dok C.nt o.dst = true) {t e : TypeId} {n : Nat} {ps : Array (Nat × Operand)} (ho : o.op = .buildSlice t n ps) {i ie : TI} (hi : look T t = some i) (hk : i.kd = .sl e) (hie : look T e = some ie) (hp : nth s.hp p = some ⟨e, ie.sz, []⟩) {vs : List (Nat × AV)} (hx : evps s ps.toList = some vs)
    {q : List AV} (h : aFill (fun j => some (j * ie.sz, ie.sz)) (reps n ie.zero) vs = some q) (hn : Nat.ble (n * ie.sz) 16777216 = true) (hn0 : Nat.blt 0 n = true) (hs : (Nat.blt 0 ie.sz && Nat.beq (len q) (n * ie.sz) && q.all AV.cell) = true) : LS C l s o (mkFx l s o (.blk p ⟨e, ie.sz, chunk n ie.sz q⟩ (.os p n)) [p]) :=
  LS.blk [p] hw fun s' hl => by
    have hp' := (hl.xb p (by simp)).trans hp
    rw [nth_eq] at hp'
    have hx' := (hl.evps (xs := ps.toList) (fun x hx => by
      rw [ho]
      simp only [Op.operands]
      exact List.mem_map.2 ⟨x, hx, rfl⟩)).trans hx
    have hT' := hT t i hi
    have hTe := hT e ie hie
    have hn := Nat.le_of_ble_eq_true hn
    rw [Nat.blt_eq] at hn0
    simp only [Bool.and_eq_true, Nat.blt_eq, List.all_eq_true] at hs
    obtain ⟨⟨c1, c2⟩, c3⟩ := hs
    have c2 := Nat.eq_of_beq_eq_true c2
    rw [len_eq] at c2
    refine OpOK.val hd fun γ κ a W hC => ?_
    obtain ⟨d, d1, d2, d3⟩ := hT'.und
    rw [hk] at d2
    obtain rfl := kd_sl d2
    obtain ⟨z', hz1, hz2⟩ := hTe.zeroValue
    have hzl : z'.cells.toList.length = ie.zero.length := (constAVs_rep (M := s'.mm C γ κ W) hz1).length.symm
    have hmade := madeCells_rep (constAVs_rep (M := s'.mm C γ κ W) hz1) n
    have h0 : n * ie.sz ≠ 0 := Nat.ne_of_gt (Nat.mul_pos hn0 c1)
    have hr2 : All2 (RepA (s'.mm C γ κ W)) (reps n ie.zero) ((Array.range (n * ie.sz)).map (z'.cells[· % z'.cells.size]!)).toList := by
      have e1 : n * ie.sz = n * z'.cells.toList.length := by rw [hzl, hTe.zl]
      rw [e1]
      simpa using hmade
    obtain ⟨cs', g1, g2⟩ := fill_ok (place' := fun j => some (j * ie.sz, ie.sz)) (fun i z h => h) (hC.evps hx') hr2 h
    have hnm : n ≤ maxLen := by
      have h1 : n ≤ n * ie.sz := Nat.le_mul_of_pos_right n c1
      have h2 : (16777216 : Nat) ≤ maxLen := by decide
      omega
    have hch := chunk_flat n ie.sz q c2
    obtain ⟨γ', κ', k1, k2, k3⟩ := hC.place hp' (rows := chunk n ie.sz q) (ys := cs'.toList) (sp := []) (k := n) (Nat.le_of_eq hch.2.1) hnm (by rw [List.append_nil, ← g2.length, c2]) (by intro e; have := hch.2.1; rw [e] at this; simp at this; omega) hch.2.2 (by rw [hch.1]; exact c3) (by rw [hch.1]; exact g2)
    simp only [List.append_nil, Array.toArray_toList] at k1
    refine ⟨.slice (some ⟨W.heap.size, 0, none⟩) n n, γ', κ', _, ?_, k1, ?_⟩
    · unfold execOp; rw [ho]
      refine val_run ?_
      unfold Instr.buildSlice
      rw [run_bind (und_run d1 W)]
      simp only
      rw [run_bind (hTe.sizeOf W), if_neg (by omega)]
      have e3 : (ps.map fun x : Nat × Operand => (x.1, a.eval x.2)).toList = ps.toList.map fun (i, x) => (i, a.eval x) := by simp
      rw [e3, if_neg h0, run_bind (hz2 W), run_bind (run_pure _ _), g1]
      rfl
    · have hpl : p < s'.hp.length := (List.getElem?_eq_some_iff.1 hp').1
      refine .os p n ⟨e, ie.sz, chunk n ie.sz q⟩ _ _ _ ?_ (Nat.le_of_eq hch.2.1.symm) fun _ => ⟨?_, rfl, ?_⟩
      · show (s'.hp.set p _)[p]? = _
        rw [List.getElem?_set_self hpl]
      · show _ = (γ' p).map _
        rw [k2]; rfl
      · show n = κ' p
        rw [k3]
theorem Loc.srcImm {s' : St} {y : Operand} {xb : List Nat} (hl : Loc l s s' o xb) (hy : y ∈ o.op.operands.toList) (hT : TsOK C.P T) {ie : TI} {tx : TypeId} {i : TI} (hi : look T tx = some i) {e : TypeId} (hk : i.kd = .sl e) {rows : List (List IV)} (hev : s.ev y = some (.imm (.sl rows))) (hr : ∀ r ∈ rows, r.length = ie.sz) : SrcA C s' ie tx y (rows.map (·.map .imm)) :=
  SrcA.imm hT hi hk ((hl.ev y hy).trans hev) hr
theorem Loc.srcOwn {s' : St} {y : Operand} {xb : List Nat} (hl : Loc l s s' o xb) (hy : y ∈ o.op.operands.toList) (hT : TsOK C.P T) {ie : TI} {tx : TypeId} {i : TI} (hi : look T tx = some i) {e : TypeId} (hk : i.kd = .sl e) {id n : Nat} (hev : s.ev y = some (.os id n)) {b : Blk} (hb : nth s.hp id = some b) (hver : n = b.rows.length) (hsz : b.sz = ie.sz)
    (hr : ∀ r ∈ b.rows, r.length = ie.sz) (hc : ∀ c ∈ b.rows.flatten, c.cell = true) : SrcA C s' ie tx y b.rows :=
  SrcA.own hT hi hk ((hl.ev y hy).trans hev) ((hl.hp y hy _ hev id (by simp [refs])).trans hb) hver hsz hr hc
-- '==' of structs
/-- Values of a type are compared cell by cell. -/
def EqT (P : Program) (t : TypeId) (f : List AV → List AV → Option Bool) : Prop :=
  P.eqGuardType P.depth t = false ∧ ∀ (M : Mm) (l m : List AV) (b : Bool) (xs ys : List Value) (w : World), f l m = some b → All2 (RepA M) l xs → All2 (RepA M) m ys → (Op.equal t (.agg xs.toArray) (.agg ys.toArray)).run P w = .ok b w
def eqB (op : BinOp) (b : Bool) : Option Bool :=
  match op with
  | .eql => some b
  | .neq => some (!b)
  | _ => none
theorem OpOK.eqs {f : List AV → List AV → Option Bool} (hd : dok C.nt o.dst = true) {op : BinOp} {t t2 : TypeId} {x y : Operand} (ho : o.op = .binOp op t x y t2) {p q : List AV} (hx : s.ev x = some (.agg p)) (hy : s.ev y = some (.agg q)) (hE : EqT C.P t f) {b c : Bool} (hf : f p q = some b) (h : eqB op b = some c) : OpOK C s o (s.put o.dst (.imm (.bool c))) :=
  OpOK.quiet hd fun γ κ a W hC => by
    have h1 := hC.ev hx
    have h2 := hC.ev hy
    refine ⟨.bool c, ?_, .imm _ _ (.bool _)⟩
    have key : ∀ u v, RepA (s.mm C γ κ W) (.agg p) u → RepA (s.mm C γ κ W) (.agg q) v → (eqGuard op t x y u v).run C.P W = .ok () W ∧ (binOp op t u v).run C.P W = .ok (.bool c) W := by
      intro u v hu hv
      cases hu with
      | agg _ xs hu => cases hv with
        | agg _ ys hv =>
          have he := hE.2 _ _ _ _ xs ys W hf hu hv
          constructor
          · unfold eqGuard
            have hp : (program).run C.P W = .ok C.P W := rfl
            cases op <;> first
              | rfl
              | (simp only [Bool.not_true, Bool.false_eq_true, if_false]
                 rw [run_bind hp, run_bind hp, hE.1]
                 rfl)
          · unfold eqB at h
            split at h
            · obtain rfl := Option.some.inj h
              simp only [binOp]
              rw [run_bind he]; rfl
            · obtain rfl := Option.some.inj h
              simp only [binOp]
              rw [run_bind he]; rfl
            · cases h
    obtain ⟨k1, k2⟩ := key _ _ h1 h2
    exact bin_run ho k1 k2
theorem LS.eqs {f : List AV → List AV → Option Bool} (hw : awant l s o = some true) (hd : dok C.nt o.dst = true) {op : BinOp} {t t2 : TypeId} {x y : Operand} (ho : o.op = .binOp op t x y t2) {p q : List AV} (hx : s.ev x = some (.agg p)) (hy : s.ev y = some (.agg q)) (hE : EqT C.P t f) {b c : Bool} (hf : f p q = some b) (h : eqB op b = some c) : LS C l s o (mkFx l s o (.val (.imm (.bool c))) []) :=
  LS.quiet [] hw fun s' hl => OpOK.eqs hd ho ((hl.ev x (by rw [ho]; simp [Op.operands])).trans hx) ((hl.ev y (by rw [ho]; simp [Op.operands])).trans hy) hE hf h
/-- One that has only cells without a name of the memory. -/
noncomputable def cellEq : AV → AV → Option Bool
  | .imm (.int k m), .imm (.int k2 n) => if k = k2 then some (dec (m = n)) else none
  | .imm (.str m), .imm (.str n) => some (dec (m = n))
  | .imm (.bool m), .imm (.bool n) => some (m == n)
  | _, _ => none
noncomputable def cellsEq : List AV → List AV → Option Bool
  | [x], [y] => cellEq x y
  | x :: l, y :: m => (match cellEq x y with
    | some b => (match cellsEq l m with
      | some c => some (b && c)
      | none => none)
    | none => none)
  | _, _ => none
end
end Go.Proofs.YtmhejcnaanocpaaGreat.A
namespace Go.Proofs.YtmhejcnaanocpaaGreat.A
open Go.RowKit
set_option linter.unusedVariables false
set_option linter.unusedSimpArgs false
section
variable {P : Program} {d : Nat} {xs ys : Array Value} {f : Field} {fs : List Field} {a b : Value} {r s : Bool} {w : World}
theorem eqf_last (hn : (f.name == "_") = false) (ha : (part f.type xs f.offset).run P w = .ok a w) (hb : (part f.type ys f.offset).run P w = .ok b w) (he : (Op.equalIn d f.type a b).run P w = .ok r w) : (Op.eqFields d xs ys [f]).run P w = .ok r w := by
  have hn' : f.name ≠ "_" := by simpa using hn
  simp only [Op.eqFields, if_pos hn', Sem.run_bind, ha, hb, he, Result.andThen_ok]
  cases r <;> simp
theorem eqf_cons (hn : (f.name == "_") = false) (ha : (part f.type xs f.offset).run P w = .ok a w) (hb : (part f.type ys f.offset).run P w = .ok b w) (he : (Op.equalIn d f.type a b).run P w = .ok r w) (hr : (Op.eqFields d xs ys fs).run P w = .ok s w) : (Op.eqFields d xs ys (f :: fs)).run P w = .ok (r && s) w := by
  have hn' : f.name ≠ "_" := by simpa using hn
  rw [Op.eqFields]
  simp only [if_pos hn', Sem.run_bind, ha, hb, he, Result.andThen_ok]
  cases r
  · simp
  · simpa using hr
theorem eqA_of {t : TypeId} {fs : Array Field} (hu : P.underlying t = some (.struct fs)) (hp : P.stoodInHeld t = false) (h : (Op.eqFields d xs ys fs.toList).run P w = .ok r w) : (Op.equalIn (d + 1) t (.agg xs) (.agg ys)).run P w = .ok r w := by
  have hf : P.fieldsOf t = fs := by simp [Program.fieldsOf, hu]
  rw [run_equalIn_struct (P := P) w d t xs ys (by rw [hf]; exact hu) hp, hf]
  exact h
theorem eqi_int {t : TypeId} {k' : IntKind} {k : IntKind} {m n : Int} (h : P.underlying t = some (.int k')) : (Op.equalIn (d + 1) t (.int k m) (.int k n)).run P w = .ok (dec (m = n)) w := by
  have e : dec (m = n) = (m == n) := by rw [dec_eq, Bool.eq_iff_iff]; simp
  rw [e]; exact run_equalIn_int w d t k k' m n h
theorem eqi_bool {t : TypeId} {m n : Bool} (h : P.underlying t = some .bool) : (Op.equalIn (d + 1) t (.bool m) (.bool n)).run P w = .ok (m == n) w := run_equalIn_bool' w d t m n h
theorem eqi_str {t : TypeId} {m n : ByteArray} (h : P.underlying t = some .string) : (Op.equalIn (d + 1) t (.string m) (.string n)).run P w = .ok (dec (m = n)) w := by
  rw [dec_eq, ← bytes_eq]; exact run_equalIn_string w d t m n h
theorem part_a {t : TypeId} {i : TI} (h : TOk P t i) (ha : i.isAgg = true) (xs : List Value) (off : Nat) {ys : List Value} (hy : (xs.drop off).take i.sz = ys) : (part t xs.toArray off).run P w = .ok (.agg ys.toArray) w := by
  have := part_agg (n := i.sz) (by rw [← ha]; exact h.isAgg w) (h.sizeOf w) xs off
  rw [hy] at this; exact this
theorem part_1 {t : TypeId} {i : TI} (h : TOk P t i) (ha : i.isAgg = false) (xs : List Value) (off : Nat) {y : Value} (hy : xs[off]? = some y) : (part t xs.toArray off).run P w = .ok y w :=
  part_one (by rw [← ha]; exact h.isAgg w) xs off hy
end
theorem equal_at {P : Program} {t : TypeId} {x y : Value} {w : World} {r : Result Bool} (k d : Nat) (h : k + d = 10000) (hr : (Op.equalIn (k + d) t x y).run P w = r) : (Op.equal t x y).run P w = r := by
  rw [h] at hr
  exact hr
theorem c_int {M : Mm} {k : IntKind} {n : Int} {l : List AV} {xs : List Value} (h : All2 (RepA M) (.imm (.int k n) :: l) xs) : ∃ r, xs = .int k n :: r ∧ All2 (RepA M) l r := by
  cases h with
  | cons h1 h2 => cases h1 with
    | imm _ _ h1 => cases h1; exact ⟨_, rfl, h2⟩
theorem c_str {M : Mm} {n : ByteArray} {l : List AV} {xs : List Value} (h : All2 (RepA M) (.imm (.str n) :: l) xs) : ∃ r, xs = .string n :: r ∧ All2 (RepA M) l r := by
  cases h with
  | cons h1 h2 => cases h1 with
    | imm _ _ h1 => cases h1; exact ⟨_, rfl, h2⟩
theorem c_bool {M : Mm} {n : Bool} {l : List AV} {xs : List Value} (h : All2 (RepA M) (.imm (.bool n) :: l) xs) : ∃ r, xs = .bool n :: r ∧ All2 (RepA M) l r := by
  cases h with
  | cons h1 h2 => cases h1 with
    | imm _ _ h1 => cases h1; exact ⟨_, rfl, h2⟩
theorem c_nil {M : Mm} {xs : List Value} (h : All2 (RepA M) [] xs) : xs = [] := by cases h; rfl
end Go.Proofs.YtmhejcnaanocpaaGreat.A
