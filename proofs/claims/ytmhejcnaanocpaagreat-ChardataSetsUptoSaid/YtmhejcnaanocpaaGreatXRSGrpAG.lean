/- The abstract walk, part U: own blocks in a region that draws its order; '==' of structs; a slice held against nil. -/
import Derived.Test.YtmhejcnaanocpaaGreatXRSGrpAF
import Derived.Laws.StructEq
namespace Go.Proofs.YtmhejcnaanocpaaGreat.A
open Go.RowKit
set_option linter.unusedVariables false
set_option linter.unusedSimpArgs false
section
variable {C : Cx} {s : St} {γ : Nat → Option Nat} {κ : Nat → Nat} {a : Act} {W : World} {o : Oper} {T : List (Nat × TI)} {l : List Oper} {Q : Exit → St → Prop}
theorem AW.reserve {c : Code} (ty sz : Nat) (hpos : Nat.blt 0 sz = true) (h : AW C c Q ⟨s.env, s.hp ++ [⟨ty, sz, []⟩]⟩) : AW C c Q s := by
  refine yb3 (fun γ κ a W hC => ?_) h
  rw [Nat.blt_eq] at hpos
  obtain ⟨γ', κ', h1, _⟩ := hC.reserve ty sz hpos
  exact ⟨γ', κ', h1⟩
theorem Conc.alike {W' : World} (hC : Conc C s γ κ a W) (h1 : W'.heap = W.heap) (h2 : W'.os = W.os) (h3 : W'.tape = W.tape) (h4 : W'.output = W.output) : Conc C s γ κ a W' :=
  hC.below ⟨h2, h3, h4, by rw [h1]; exact Nat.le_refl _, fun k _ => by rw [h1]⟩
theorem Conc.place (hC : Conc C s γ κ a W) {p ty sz : Nat} (hp : s.hp[p]? = some ⟨ty, sz, []⟩) {rows : List (List AV)} {ys sp : List Value} {k : Nat} (hk : rows.length ≤ k) (hkm : k ≤ maxLen) (hlen : (ys ++ sp).length = k * sz) (hne : rows ≠ [])
    (hr : ∀ r ∈ rows, r.length = sz) (hc : ∀ c ∈ rows.flatten, c.cell = true) (hrep : All2 (RepA (s.mm C γ κ W)) rows.flatten ys) :
    ∃ γ' κ', Conc C ⟨s.env, s.hp.set p ⟨ty, sz, rows⟩⟩ γ' κ' a (W.alloc (.cells (ys ++ sp).toArray ty)) ∧ γ' p = some W.heap.size ∧ κ' p = k := by
  obtain ⟨γ', κ', h1, h2, h3⟩ := hC.moved hp (rows2 := rows) (ys2 := ys) (sp2 := sp) (by simpa using hk) hkm hlen hne hr hc (by simpa using hrep)
  simp only [List.nil_append] at h1
  exact ⟨γ', κ', h1.alike rfl rfl rfl rfl, h2, h3⟩
theorem yb4 {p ty sz : Nat} (hd : dok C.nt o.dst = true) (hp : s.hp[p]? = some ⟨ty, sz, []⟩) {cells : List AV} (hl : cells.length = sz) (hcell : cells.all AV.cell = true)
    (h : ∀ γ κ a W, Conc C s γ κ a W → ∃ xs, All2 (RepA (s.mm C γ κ W)) cells xs ∧ (execOp a.eval o).run C.P W = .ok (.value (.pointer (some ⟨W.heap.size, 0, none⟩))) (W.alloc (.cells xs.toArray ty))) :
    OpOK C s o (St.put ⟨s.env, s.hp.set p ⟨ty, sz, [cells]⟩⟩ o.dst (.ptr p 1 0 0)) :=
  OpOK.val hd fun γ κ a W hC => by
    obtain ⟨xs, h1, h2⟩ := h γ κ a W hC
    obtain ⟨γ', κ', c1, c2, c3⟩ := hC.place hp (rows := [cells]) (ys := xs) (sp := []) (k := 1) (by simp) (by decide) (by rw [List.append_nil, ← h1.length, hl]; omega) (by simp) (by simpa using hl) (by simpa using hcell) (by simpa using h1)
    rw [List.append_nil] at c1
    refine ⟨_, γ', κ', _, h2, c1, ?_⟩
    have hpl : p < s.hp.length := (List.getElem?_eq_some_iff.1 hp).1
    refine .ptr p 1 0 0 ⟨ty, sz, [cells]⟩ _ ?_ (Nat.le_refl _) fun _ => ⟨W.heap.size, c2, by simp⟩
    show (s.hp.set p _)[p]? = _
    rw [List.getElem?_set_self hpl]
theorem LS.alloc (p : Nat) (hT : TsOK C.P T) (hw : awant l s o = some true) (hd : dok C.nt o.dst = true) {t : TypeId} (ho : o.op = .alloc t) {i : TI} (hi : look T t = some i) (hp : nth s.hp p = some ⟨t, i.sz, []⟩) (hcell : i.zero.all AV.cell = true) : LS C l s o (mkFx l s o (.blk p ⟨t, i.sz, [i.zero]⟩ (.ptr p 1 0 0)) [p]) :=
  LS.blk [p] hw fun s' hl => by
    have hp' := (hl.xb p (by simp)).trans hp
    rw [qm] at hp'
    refine yb4 hd hp' (hT t i hi).zl hcell fun γ κ a W hC => ?_
    obtain ⟨z, h1, h2⟩ := (hT t i hi).zeroValue
    refine ⟨_, qp h1, ?_⟩
    unfold execOp; rw [ho]
    refine qr ?_
    unfold Instr.alloc
    rw [run_bind (h2 W), Array.toArray_toList]
    rfl
theorem LS.box (p : Nat) (hw : awant l s o = some true) (hd : dok C.nt o.dst = true) {t : TypeId} {x : Operand} (ho : o.op = .box t x) {q : AV} (hx : s.ev x = some q) {sz : Nat} (hp : nth s.hp p = some ⟨t, sz, []⟩) (hl : Nat.beq (len (avCells q)) sz = true) (hcell : (avCells q).all AV.cell = true) : LS C l s o (mkFx l s o (.blk p ⟨t, sz, [avCells q]⟩ (.ptr p 1 0 0)) [p]) :=
  LS.blk [p] hw fun s' hl' => by
    have hp' := (hl'.xb p (by simp)).trans hp
    rw [qm] at hp'
    have hl := Nat.eq_of_beq_eq_true hl
    rw [qq] at hl
    refine yb4 hd hp' hl hcell fun γ κ a W hC => ?_
    have hx' := (hl'.ev x (by rw [ho]; simp [Op.operands])).trans hx
    refine ⟨_, (hC.ev hx').cells, ?_⟩
    unfold execOp; rw [ho]
    refine qr ?_
    unfold Instr.box
    rw [Array.toArray_toList]
    rfl
theorem LS.store (hT : TsOK C.P T) (hw : awant l s o = some true) (hd : o.dst = none) {t : TypeId} {p x : Operand} (ho : o.op = .store t p x) {i : TI} (hi : look T t = some i) {id ver row off : Nat} (hp : s.ev p = some (.ptr id ver row off)) {v : AV} (hx : s.ev x = some v)
    {ty sz : Nat} {rows : List (List AV)} (hb : nth s.hp id = some ⟨ty, sz, rows⟩) (hver : ver = rows.length) (hlen : (avCells v).length = i.sz) (hcell : (avCells v).all AV.cell = true) (hfit : off + i.sz ≤ sz) {r : List AV} (hr : rows[row]? = some r) :
    LS C l s o (mkFx l s o (.blk id ⟨ty, sz, rows.set row (putRow sz i.sz r off (avCells v))⟩ .undef) []) :=
  LS.blk [] hw fun s' hl => by
    have hb' := (hl.hp p (by rw [ho]; simp [Op.operands]) _ hp id (by simp [refs])).trans hb
    rw [qm] at hb'
    have := ya2 hT hd ho hi ((hl.ev p (by rw [ho]; simp [Op.operands])).trans hp) ((hl.ev x (by rw [ho]; simp [Op.operands])).trans hx) hb' hver hlen hcell hfit hr
    rw [hd]
    exact this
theorem yaw (hT : TsOK C.P T) (hw : awant l s o = some true) (hd : dok C.nt o.dst = true) {x y : Operand} {t tx e : TypeId} (ho : o.op = .call ⟨.builtin .append, #[x, y], #[t, tx]⟩) {i ie : TI} (hi : look T t = some i) (hk : i.kd = .sl e) (hie : look T e = some ie) {id n : Nat} (hx : s.ev x = some (.os id n))
    {ty sz : Nat} {rows : List (List AV)} (hb : nth s.hp id = some ⟨ty, sz, rows⟩) (hver : n = rows.length) (hty : ty = e) (hsz : sz = ie.sz) {rows2 : List (List AV)} (hsrc : ∀ s', Loc l s s' o [] → SrcA C s' ie tx y rows2) (hbound : (rows.length + rows2.length) * ie.bytes ≤ 140737488355328) (h63 : rows.length + rows2.length ≤ 9223372036854775807) :
    LS C l s o (mkFx l s o (.blk id ⟨ty, sz, rows ++ rows2⟩ (.os id (n + rows2.length))) []) :=
  LS.blk [] hw fun s' hl => by
    have hxm : x ∈ o.op.operands.toList := by rw [ho]; simp [Op.operands, Call.operands]
    have hb' := (hl.hp x hxm _ hx id (by simp [refs])).trans hb
    exact yam hT hd ho hi hk hie ((hl.ev x hxm).trans hx) hb' hver hty hsz (hsrc s' hl) hbound h63
theorem ya9 (p : Nat) (hT : TsOK C.P T) (hw : awant l s o = some true) (hd : dok C.nt o.dst = true) {t e : TypeId} {n : Nat} {ps : Array (Nat × Operand)} (ho : o.op = .buildSlice t n ps) {i ie : TI} (hi : look T t = some i) (hk : i.kd = .sl e) (hie : look T e = some ie) (hp : nth s.hp p = some ⟨e, ie.sz, []⟩) {vs : List (Nat × AV)} (hx : evps s ps.toList = some vs)
    {q : List AV} (h : aFill (fun j => some (j * ie.sz, ie.sz)) (reps n ie.zero) vs = some q) (hn : Nat.ble (n * ie.sz) 16777216 = true) (hn0 : Nat.blt 0 n = true) (hs : (Nat.blt 0 ie.sz && Nat.beq (len q) (n * ie.sz) && q.all AV.cell) = true) : LS C l s o (mkFx l s o (.blk p ⟨e, ie.sz, chunk n ie.sz q⟩ (.os p n)) [p]) :=
  LS.blk [p] hw fun s' hl => by
    have hp' := (hl.xb p (by simp)).trans hp
    rw [qm] at hp'
    have hx' := (hl.evps (xs := ps.toList) (fun x hx => by
      rw [ho]
      simp only [Op.operands]
      exact List.mem_map.2 ⟨x, hx, rfl⟩)).trans hx
    have hT' := hT t i hi
    have hTe := hT e ie hie
    have hn := Nat.le_of_ble_eq_true hn
    rw [Nat.blt_eq] at hn0
    simp only [Bool.and_eq_true, Nat.blt_eq, List.all_eq_true] at hs
    obtain ⟨⟨c1, c2⟩, c3⟩ := hs
    have c2 := Nat.eq_of_beq_eq_true c2
    rw [qq] at c2
    refine OpOK.val hd fun γ κ a W hC => ?_
    obtain ⟨d, d1, d2, d3⟩ := hT'.und
    rw [hk] at d2
    obtain rfl := qbh d2
    obtain ⟨z', hz1, hz2⟩ := hTe.zeroValue
    have hzl : z'.cells.toList.length = ie.zero.length := (qp (M := s'.mm C γ κ W) hz1).length.symm
    have hmade := qal (qp (M := s'.mm C γ κ W) hz1) n
    have h0 : n * ie.sz ≠ 0 := Nat.ne_of_gt (Nat.mul_pos hn0 c1)
    have hr2 : All2 (RepA (s'.mm C γ κ W)) (reps n ie.zero) ((Array.range (n * ie.sz)).map (z'.cells[· % z'.cells.size]!)).toList := by
      have e1 : n * ie.sz = n * z'.cells.toList.length := by rw [hzl, hTe.zl]
      rw [e1]
      simpa using hmade
    obtain ⟨cs', g1, g2⟩ := qdf (place' := fun j => some (j * ie.sz, ie.sz)) (fun i z h => h) (hC.evps hx') hr2 h
    have hnm : n ≤ maxLen := by
      have h1 : n ≤ n * ie.sz := Nat.le_mul_of_pos_right n c1
      have h2 : (16777216 : Nat) ≤ maxLen := by decide
      omega
    have hch := qap n ie.sz q c2
    obtain ⟨γ', κ', k1, k2, k3⟩ := hC.place hp' (rows := chunk n ie.sz q) (ys := cs'.toList) (sp := []) (k := n) (Nat.le_of_eq hch.2.1) hnm (by rw [List.append_nil, ← g2.length, c2]) (by intro e; have := hch.2.1; rw [e] at this; simp at this; omega) hch.2.2 (by rw [hch.1]; exact c3) (by rw [hch.1]; exact g2)
    simp only [List.append_nil, Array.toArray_toList] at k1
    refine ⟨.slice (some ⟨W.heap.size, 0, none⟩) n n, γ', κ', _, ?_, k1, ?_⟩
    · unfold execOp; rw [ho]
      refine qr ?_
      unfold Instr.buildSlice
      rw [run_bind (qaj d1 W)]
      simp only
      rw [run_bind (hTe.sizeOf W), if_neg (by omega)]
      have e3 : (ps.map fun x : Nat × Operand => (x.1, a.eval x.2)).toList = ps.toList.map fun (i, x) => (i, a.eval x) := by simp
      rw [e3, if_neg h0, run_bind (hz2 W), run_bind (run_pure _ _), g1]
      rfl
    · have hpl : p < s'.hp.length := (List.getElem?_eq_some_iff.1 hp').1
      refine .os p n ⟨e, ie.sz, chunk n ie.sz q⟩ _ _ _ ?_ (Nat.le_of_eq hch.2.1.symm) fun _ => ⟨?_, rfl, ?_⟩
      · show (s'.hp.set p _)[p]? = _
        rw [List.getElem?_set_self hpl]
      · show _ = (γ' p).map _
        rw [k2]; rfl
      · show n = κ' p
        rw [k3]
theorem Loc.srcImm {s' : St} {y : Operand} {xb : List Nat} (hl : Loc l s s' o xb) (hy : y ∈ o.op.operands.toList) (hT : TsOK C.P T) {ie : TI} {tx : TypeId} {i : TI} (hi : look T tx = some i) {e : TypeId} (hk : i.kd = .sl e) {rows : List (List IV)} (hev : s.ev y = some (.imm (.sl rows))) (hr : ∀ r ∈ rows, r.length = ie.sz) : SrcA C s' ie tx y (rows.map (·.map .imm)) :=
  SrcA.imm hT hi hk ((hl.ev y hy).trans hev) hr
theorem Loc.srcOwn {s' : St} {y : Operand} {xb : List Nat} (hl : Loc l s s' o xb) (hy : y ∈ o.op.operands.toList) (hT : TsOK C.P T) {ie : TI} {tx : TypeId} {i : TI} (hi : look T tx = some i) {e : TypeId} (hk : i.kd = .sl e) {id n : Nat} (hev : s.ev y = some (.os id n)) {b : Blk} (hb : nth s.hp id = some b) (hver : n = b.rows.length) (hsz : b.sz = ie.sz)
    (hr : ∀ r ∈ b.rows, r.length = ie.sz) (hc : ∀ c ∈ b.rows.flatten, c.cell = true) : SrcA C s' ie tx y b.rows :=
  SrcA.own hT hi hk ((hl.ev y hy).trans hev) ((hl.hp y hy _ hev id (by simp [refs])).trans hb) hver hsz hr hc
def EqT (P : Program) (t : TypeId) (f : List AV → List AV → Option Bool) : Prop :=
  P.eqGuardType P.depth t = false ∧ ∀ (M : Mm) (l m : List AV) (b : Bool) (xs ys : List Value) (w : World), f l m = some b → All2 (RepA M) l xs → All2 (RepA M) m ys → (Op.equal t (.agg xs.toArray) (.agg ys.toArray)).run P w = .ok b w
def eqB (op : BinOp) (b : Bool) : Option Bool :=
  match op with
  | .eql => some b
  | .neq => some (!b)
  | _ => none
theorem ya6 {f : List AV → List AV → Option Bool} (hd : dok C.nt o.dst = true) {op : BinOp} {t t2 : TypeId} {x y : Operand} (ho : o.op = .binOp op t x y t2) {p q : List AV} (hx : s.ev x = some (.agg p)) (hy : s.ev y = some (.agg q)) (hE : EqT C.P t f) {b c : Bool} (hf : f p q = some b) (h : eqB op b = some c) : OpOK C s o (s.put o.dst (.imm (.bool c))) :=
  yaj hd fun γ κ a W hC => by
    have h1 := hC.ev hx
    have h2 := hC.ev hy
    refine ⟨.bool c, ?_, .imm _ _ (.bool _)⟩
    have key : ∀ u v, RepA (s.mm C γ κ W) (.agg p) u → RepA (s.mm C γ κ W) (.agg q) v → (eqGuard op t x y u v).run C.P W = .ok () W ∧ (binOp op t u v).run C.P W = .ok (.bool c) W := by
      intro u v hu hv
      cases hu with
      | agg _ xs hu => cases hv with
        | agg _ ys hv =>
          have he := hE.2 _ _ _ _ xs ys W hf hu hv
          constructor
          · unfold eqGuard
            have hp : (program).run C.P W = .ok C.P W := rfl
            cases op <;> first
              | rfl
              | (simp only [Bool.not_true, Bool.false_eq_true, if_false]
                 rw [run_bind hp, run_bind hp, hE.1]
                 rfl)
          · unfold eqB at h
            split at h
            · obtain rfl := Option.some.inj h
              simp only [binOp]
              rw [run_bind he]; rfl
            · obtain rfl := Option.some.inj h
              simp only [binOp]
              rw [run_bind he]; rfl
            · cases h
    obtain ⟨k1, k2⟩ := key _ _ h1 h2
    exact qcb ho k1 k2
theorem ybw {f : List AV → List AV → Option Bool} (hw : awant l s o = some true) (hd : dok C.nt o.dst = true) {op : BinOp} {t t2 : TypeId} {x y : Operand} (ho : o.op = .binOp op t x y t2) {p q : List AV} (hx : s.ev x = some (.agg p)) (hy : s.ev y = some (.agg q)) (hE : EqT C.P t f) {b c : Bool} (hf : f p q = some b) (h : eqB op b = some c) : LS C l s o (mkFx l s o (.val (.imm (.bool c))) []) :=
  yav [] hw fun s' hl => ya6 hd ho ((hl.ev x (by rw [ho]; simp [Op.operands])).trans hx) ((hl.ev y (by rw [ho]; simp [Op.operands])).trans hy) hE hf h
end
section
variable {P : Program} {d : Nat} {xs ys : Array Value} {f : Field} {fs : List Field} {a b : Value} {r s : Bool} {w : World}
theorem qc4 (hn : (f.name == "_") = false) (ha : (part f.type xs f.offset).run P w = .ok a w) (hb : (part f.type ys f.offset).run P w = .ok b w) (he : (Op.equalIn d f.type a b).run P w = .ok r w) : (Op.eqFields d xs ys [f]).run P w = .ok r w := by
  have hn' : f.name ≠ "_" := by simpa using hn
  simp only [Op.eqFields, if_pos hn', Sem.run_bind, ha, hb, he, Result.andThen_ok]
  cases r <;> simp
theorem qaa (hn : (f.name == "_") = false) (ha : (part f.type xs f.offset).run P w = .ok a w) (hb : (part f.type ys f.offset).run P w = .ok b w) (he : (Op.equalIn d f.type a b).run P w = .ok r w) (hr : (Op.eqFields d xs ys fs).run P w = .ok s w) : (Op.eqFields d xs ys (f :: fs)).run P w = .ok (r && s) w := by
  have hn' : f.name ≠ "_" := by simpa using hn
  rw [Op.eqFields]
  simp only [if_pos hn', Sem.run_bind, ha, hb, he, Result.andThen_ok]
  cases r
  · simp
  · simpa using hr
theorem qgw {t : TypeId} {fs : Array Field} (hu : P.underlying t = some (.struct fs)) (hp : P.stoodInHeld t = false) (h : (Op.eqFields d xs ys fs.toList).run P w = .ok r w) : (Op.equalIn (d + 1) t (.agg xs) (.agg ys)).run P w = .ok r w := by
  have hf : P.fieldsOf t = fs := by simp [Program.fieldsOf, hu]
  rw [run_equalIn_struct (P := P) w d t xs ys (by rw [hf]; exact hu) hp, hf]
  exact h
theorem qcc {t : TypeId} {k' : IntKind} {k : IntKind} {m n : Int} (h : P.underlying t = some (.int k')) : (Op.equalIn (d + 1) t (.int k m) (.int k n)).run P w = .ok (dec (m = n)) w := by
  have e : dec (m = n) = (m == n) := by rw [qa, Bool.eq_iff_iff]; simp
  rw [e]; exact run_equalIn_int w d t k k' m n h
theorem qgx {t : TypeId} {m n : Bool} (h : P.underlying t = some .bool) : (Op.equalIn (d + 1) t (.bool m) (.bool n)).run P w = .ok (m == n) w := run_equalIn_bool' w d t m n h
theorem qbw {t : TypeId} {m n : ByteArray} (h : P.underlying t = some .string) : (Op.equalIn (d + 1) t (.string m) (.string n)).run P w = .ok (dec (m = n)) w := by
  rw [qa, ← qgt]; exact run_equalIn_string w d t m n h
theorem qgy {t : TypeId} {i : TI} (h : TOk P t i) (ha : i.isAgg = true) (xs : List Value) (off : Nat) {ys : List Value} (hy : (xs.drop off).take i.sz = ys) : (part t xs.toArray off).run P w = .ok (.agg ys.toArray) w := by
  have := qgr (n := i.sz) (by rw [← ha]; exact h.isAgg w) (h.sizeOf w) xs off
  rw [hy] at this; exact this
theorem qv {t : TypeId} {i : TI} (h : TOk P t i) (ha : i.isAgg = false) (xs : List Value) (off : Nat) {y : Value} (hy : xs[off]? = some y) : (part t xs.toArray off).run P w = .ok y w :=
  qgs (by rw [← ha]; exact h.isAgg w) xs off hy
end
theorem qcl {P : Program} {t : TypeId} {x y : Value} {w : World} {r : Result Bool} (k d : Nat) (h : k + d = 10000) (hr : (Op.equalIn (k + d) t x y).run P w = r) : (Op.equal t x y).run P w = r := by
  rw [h] at hr
  exact hr
theorem qc0 {M : Mm} {k : IntKind} {n : Int} {l : List AV} {xs : List Value} (h : All2 (RepA M) (.imm (.int k n) :: l) xs) : ∃ r, xs = .int k n :: r ∧ All2 (RepA M) l r := by
  cases h with
  | cons h1 h2 => cases h1 with
    | imm _ _ h1 => cases h1; exact ⟨_, rfl, h2⟩
theorem qav {M : Mm} {n : ByteArray} {l : List AV} {xs : List Value} (h : All2 (RepA M) (.imm (.str n) :: l) xs) : ∃ r, xs = .string n :: r ∧ All2 (RepA M) l r := by
  cases h with
  | cons h1 h2 => cases h1 with
    | imm _ _ h1 => cases h1; exact ⟨_, rfl, h2⟩
theorem qgz {M : Mm} {n : Bool} {l : List AV} {xs : List Value} (h : All2 (RepA M) (.imm (.bool n) :: l) xs) : ∃ r, xs = .bool n :: r ∧ All2 (RepA M) l r := by
  cases h with
  | cons h1 h2 => cases h1 with
    | imm _ _ h1 => cases h1; exact ⟨_, rfl, h2⟩
theorem qhl {M : Mm} {xs : List Value} (h : All2 (RepA M) [] xs) : xs = [] := by cases h; rfl
section
variable {C : Cx} {s : St} {γ : Nat → Option Nat} {κ : Nat → Nat} {a : Act} {W : World} {o : Oper} {T : List (Nat × TI)} {l rest : List Oper} {Q : Exit → St → Prop}
def AD (C : Cx) (l : List Oper) (Q : Exit → St → Prop) (n : Nat) (listed : Array Bool) (s : St) : Prop := ∀ γ κ a W, Conc C s γ κ a W → wpAny C.P .any l.toArray (CQ C Q) n listed a W
def AS (C : Cx) (l : List Oper) (Q : Exit → St → Prop) (n : Nat) (listed : Array Bool) (i : Nat) (s : St) : Prop := ∀ γ κ a W, Conc C s γ κ a W → wpOp C.P l.toArray (CQ C Q) i (wpAny C.P .any l.toArray (CQ C Q) n (listed.setIfInBounds i true)) a W
theorem AW.orders (hm : C.P.follows .mixedOrders = true) {id : Nat} (h : AD C l Q l.toArray.size (Array.replicate l.toArray.size false) s) : AW C (.region id l.toArray true) Q s := by
  intro γ κ a W hC
  refine wp_region_any hm ?_
  have hb : Below W.heap.size W { W with drawn := W.drawn + 1 } := ⟨rfl, rfl, rfl, Nat.le_refl _, fun _ _ => rfl⟩
  exact h γ κ a _ (hC.below hb)
theorem AD.nil {n : Nat} {listed : Array Bool} (hr : Region.ready .any l.toArray listed = []) (hQ : Q .normal s) : AD C l Q n listed s := by
  intro γ κ a W hC
  cases n with
  | zero => exact ⟨hr, s, γ, κ, hC, hQ⟩
  | succ n => exact ⟨fun _ => ⟨s, γ, κ, hC, hQ⟩, fun i hi => by rw [hr] at hi; cases hi⟩
theorem AD.one {n i : Nat} {listed : Array Bool} (hr : Region.ready .any l.toArray listed = [i]) (h : AS C l Q n listed i s) : AD C l Q (n + 1) listed s := by
  intro γ κ a W hC
  refine ⟨fun e => (by rw [hr] at e; cases e), fun j hj => ?_⟩
  rw [hr] at hj
  obtain rfl : j = i := by simpa using hj
  exact h γ κ a W hC
theorem AD.two {n i j : Nat} {listed : Array Bool} (hr : Region.ready .any l.toArray listed = [i, j]) (h : AS C l Q n listed i s) (h' : AS C l Q n listed j s) : AD C l Q (n + 1) listed s := by
  intro γ κ a W hC
  refine ⟨fun e => (by rw [hr] at e; cases e), fun k hk => ?_⟩
  rw [hr] at hk
  have hk : k = i ∨ k = j := by simpa using hk
  rcases hk with rfl | rfl
  · exact h γ κ a W hC
  · exact h' γ κ a W hC
theorem AS.op {n i : Nat} {listed : Array Bool} (ho : nth l i = some o) (hw : awant l s o = some true) {s1 : St} (h : OpOK C s o s1) (k : AD C l Q n (listed.setIfInBounds i true) s1) : AS C l Q n listed i s := by
  intro γ κ a W hC
  rw [qm] at ho
  unfold wpOp
  rw [List.getElem?_toArray, ho]
  simp only
  rw [if_pos (qaq hC hw)]
  exact .inl (h γ κ a W hC _ _ k)
theorem AS.skip {n i : Nat} {listed : Array Bool} (ho : nth l i = some o) (hw : awant l s o = some false) (hd : dok C.nt o.dst = true) (k : AD C l Q n (listed.setIfInBounds i true) (s.put o.dst .undef)) : AS C l Q n listed i s := by
  intro γ κ a W hC
  rw [qm] at ho
  unfold wpOp
  rw [List.getElem?_toArray, ho]
  simp only
  rw [if_neg (by rw [qaq hC hw]; simp)]
  exact k γ κ _ _ (hC.put hd .undef)
theorem AS.step (hT : TsOK C.P T) {n i : Nat} {listed : Array Bool} (ho : nth l i = some o) {e1 : List (Nat × AV)} {h1 : List Blk} (h : astep T C.nt l s o = some ⟨e1, h1⟩) (k : AD C l Q n (listed.setIfInBounds i true) ⟨e1, h1⟩) : AS C l Q n listed i s := by
  unfold astep at h
  split at h
  · rename_i hw
    split at h
    · rename_i hd
      exact AS.op ho hw (qid hT hd h) k
    · cases h
  · rename_i hw
    split at h
    · rename_i hd
      have e := Option.some.inj h
      rw [← e] at k
      exact AS.skip ho hw hd k
    · cases h
  · cases h
theorem Conc.fresh (hC : Conc C s γ κ a W) (ob : Obj) : Keep (s.mm C γ κ W) (s.mm C γ κ (W.alloc ob)) ∧ Conc C s γ κ a (W.alloc ob) ∧ ¬ nset C.X γ s.hp.length W.heap.size ∧ C.w0.heap.size ≤ W.heap.size := by
  have hb : Below W.heap.size W (W.alloc ob) := by
    refine ⟨rfl, rfl, rfl, (by show W.heap.size ≤ (W.heap.push ob).size; rw [Array.size_push]; exact Nat.le_succ _), fun b hb => ?_⟩
    exact Below.heap_alloc _ _ _ hb
  exact ⟨hC.below_keep hb, hC.below hb, fun h => Nat.lt_irrefl _ (hC.nlt _ h), hC.hsize⟩
theorem yb2 {t : TypeId} (hw : awant l s o = some true) (hd : dok C.nt o.dst = true) (ho : o.op = .makeMap t none) (k : ∀ g, C.w0.heap.size ≤ g → AL C l Q rest (s.put o.dst (.mp g [] []))) : AL C l Q (o :: rest) s := by
  intro γ κ a W hC
  refine wpList_step fun K hK => ?_
  rw [if_pos (qaq hC hw)]
  obtain ⟨h1, h2, h3, h4⟩ := hC.fresh (.map #[] 0)
  unfold Oper.wp
  have e : (execOp a.eval o).run C.P W = .ok (.value (.map (some W.heap.size))) (W.alloc (.map #[] 0)) := by
    unfold execOp; rw [ho]; exact qr rfl
  rw [e]
  refine hK _ _ (k W.heap.size h4 γ κ _ _ (h2.put hd (.mp _ _ _ ⟨h3, #[], [], [], ?_, rfl, rfl, rfl, .nil, .nil⟩)))
  exact q4 W _
def AV.nm0 : AV → Bool
  | .mp _ _ _ => false
  | .mpi _ _ => false
  | .agg _ => false
  | .tup _ => false
  | .fn _ _ => false
  | _ => true
def AV.nm1 : AV → Bool
  | .agg l => l.all AV.nm0
  | .tup l => l.all AV.nm0
  | .fn _ l => l.all AV.nm0
  | v => v.nm0
def AV.nm : AV → Bool
  | .agg l => l.all AV.nm1
  | .tup l => l.all AV.nm1
  | .fn _ l => l.all AV.nm1
  | v => v.nm1
def setB (W : World) (g : Nat) (ob : Obj) : World := { W with heap := W.heap.setIfInBounds g ob }
theorem qfa {W : World} {g : Nat} {o1 ob : Obj} (h : W.heap[g]? = some o1) : (setB W g ob).heap[g]? = some ob := by
  have := qa8 h
  show (W.heap.setIfInBounds g ob)[g]? = _
  rw [Array.getElem?_setIfInBounds_self_of_lt this]
theorem qcu {W : World} {g b : Nat} {ob : Obj} (h : b ≠ g) : (setB W g ob).heap[b]? = W.heap[b]? := by
  show (W.heap.setIfInBounds g ob)[b]? = _
  rw [Array.getElem?_setIfInBounds_ne (Ne.symm h)]
theorem qfb {W : World} {g : Nat} {es : Array MapEntry} {cl : Nat} {ob : Obj} (h : W.heap[g]? = some (.map es cl)) {ad : Addr} {y : Value} (hc : W.cell? ad = some y) : (setB W g ob).cell? ad = some y := by
  by_cases e : ad.block = g
  · exfalso
    unfold World.cell? at hc
    rw [e, h] at hc
    cases hc
  · rw [World.cell?_of_block (w := W) (qcu e)]; exact hc
theorem RepI.inB {W : World} {N : Nat → Prop} {g : Nat} {es : Array MapEntry} {cl : Nat} {ob : Obj} (hg : W.heap[g]? = some (.map es cl)) {v : IV} {x : Value} (h : RepI W N v x) : RepI (setB W g ob) N v x := by
  refine RepI.rec (motive_1 := fun v x _ => RepI (setB W g ob) N v x) (motive_2 := fun vs xs _ => All2 (RepI (setB W g ob) N) vs xs) (fun k n => .int k n) (fun b => .bool b) (fun s => .str s) (fun A c => .nil A c) ?_ .nilp .nilf (fun f => .fn f) (fun x h1 h2 h3 => .any x h1 h2 h3) .nil (fun _ _ h1 h2 => .cons h1 h2) h
  intro rows ad n c sz ys h0 hsz hn hc hb hr hy hrep ih
  exact .sl rows ad n c sz ys h0 hsz hn hc hb hr (fun i y h => qfb hg (hy i y h)) ih
theorem qkk {g : Nat} {es : Array MapEntry} {cl : Nat} {ob : Obj} (hg : W.heap[g]? = some (.map es cl)) {v : AV} {x : Value} (h : RepA (s.mm C γ κ W) v x) (hv : v.nm0 = true) : RepA (s.mm C γ κ (setB W g ob)) v x := by
  cases h with
  | imm v x h => exact .imm _ _ (h.inB hg)
  | nils => exact .nils
  | nocap A => exact .nocap A
  | undef => exact .undef
  | pin l ad ys h0 hb hy h => exact .pin l ad ys h0 hb (fun i y h => qfb hg (hy i y h)) (h.mono fun _ _ h => h.inB hg)
  | ptr id ver row off b q hb hv' hx => exact .ptr id ver row off b q hb hv' hx
  | os id n b A c d hb hv' hx => exact .os id n b A c d hb hv' hx
  | sub id v o n b A c hb hv' hx hc => exact .sub id v o n b A c hb hv' hx hc
  | _ => simp [AV.nm0] at hv
theorem qaz {g : Nat} {es : Array MapEntry} {cl : Nat} {ob : Obj} {f : AV → Bool} (hf : ∀ {v x}, RepA (s.mm C γ κ W) v x → f v = true → RepA (s.mm C γ κ (setB W g ob)) v x) {l : List AV} {xs : List Value} (h : All2 (RepA (s.mm C γ κ W)) l xs) (hv : l.all f = true) : All2 (RepA (s.mm C γ κ (setB W g ob))) l xs := by
  rw [List.all_eq_true] at hv
  exact h.mono_mem fun v x hm _ hr => hf hr (hv v hm)
theorem qkl {g : Nat} {es : Array MapEntry} {cl : Nat} {ob : Obj} (hg : W.heap[g]? = some (.map es cl)) {v : AV} {x : Value} (h : RepA (s.mm C γ κ W) v x) (hv : v.nm1 = true) : RepA (s.mm C γ κ (setB W g ob)) v x := by
  have h0 : ∀ {v x}, RepA (s.mm C γ κ W) v x → v.nm0 = true → RepA (s.mm C γ κ (setB W g ob)) v x := fun h hv => qkk hg h hv
  cases h with
  | agg l xs h => exact .agg _ _ (qaz (es := es) (cl := cl) h0 h hv)
  | tup l xs h => exact .tup _ _ (qaz (es := es) (cl := cl) h0 h hv)
  | fn f l xs h => exact .fn _ _ _ (qaz (es := es) (cl := cl) h0 h hv)
  | _ => exact h0 (by first | exact .imm _ _ ‹_› | exact .nils | exact .nocap _ | exact .undef | exact .pin _ _ _ ‹_› ‹_› ‹_› ‹_› | exact .mp _ _ _ ‹_› | exact .mpi _ _ _ ‹_› | exact .ptr _ _ _ _ _ _ ‹_› ‹_› ‹_› | exact .os _ _ _ _ _ _ ‹_› ‹_› ‹_› | exact .sub _ _ _ _ _ _ _ ‹_› ‹_› ‹_› ‹_›) hv
theorem qie {g : Nat} {es : Array MapEntry} {cl : Nat} {ob : Obj} (hg : W.heap[g]? = some (.map es cl)) {v : AV} {x : Value} (h : RepA (s.mm C γ κ W) v x) (hv : v.nm = true) : RepA (s.mm C γ κ (setB W g ob)) v x := by
  have h0 : ∀ {v x}, RepA (s.mm C γ κ W) v x → v.nm1 = true → RepA (s.mm C γ κ (setB W g ob)) v x := fun h hv => qkl hg h hv
  cases h with
  | agg l xs h => exact .agg _ _ (qaz (es := es) (cl := cl) h0 h hv)
  | tup l xs h => exact .tup _ _ (qaz (es := es) (cl := cl) h0 h hv)
  | fn f l xs h => exact .fn _ _ _ (qaz (es := es) (cl := cl) h0 h hv)
  | _ => exact h0 (by first | exact .imm _ _ ‹_› | exact .nils | exact .nocap _ | exact .undef | exact .pin _ _ _ ‹_› ‹_› ‹_› ‹_› | exact .mp _ _ _ ‹_› | exact .mpi _ _ _ ‹_› | exact .ptr _ _ _ _ _ _ ‹_› ‹_› ‹_› | exact .os _ _ _ _ _ _ ‹_› ‹_› ‹_› | exact .sub _ _ _ _ _ _ _ ‹_› ‹_› ‹_› ‹_›) hv
def mpOK (g : Nat) : List (Nat × AV) → Prop
  | [] => True
  | (_, v) :: r => (match v with
    | .mp g' _ _ => g' = g
    | v => v.nm = true) ∧ mpOK g r
def mset (ks vs : List (List IV)) : List (Nat × AV) → List (Nat × AV)
  | [] => []
  | (d, v) :: r => (d, match v with
    | .mp g _ _ => .mp g ks vs
    | v => v) :: mset ks vs r
def St.mset (s : St) (ks vs : List (List IV)) : St :=
  match s with
  | ⟨e, h⟩ => ⟨A.mset ks vs e, h⟩
theorem qg0 {g : Nat} {ks vs : List (List IV)} {t : Nat} {v : AV} : ∀ {e : List (Nat × AV)}, mpOK g e → get (mset ks vs e) t = some v → (∃ u, get e t = some u ∧ ((∃ k1 v1, u = .mp g k1 v1 ∧ v = .mp g ks vs) ∨ (u = v ∧ v.nm = true)))
  | [], _, h => by cases h
  | (d, u) :: r, hm, h => by
    simp only [mset, get] at h ⊢
    split at h
    · rename_i hd
      refine ⟨u, rfl, ?_⟩
      obtain ⟨h1, _⟩ := hm
      obtain rfl := Option.some.inj h
      cases u with
      | mp g' k1 v1 =>
        have h1 : g' = g := h1
        subst h1
        exact .inl ⟨k1, v1, rfl, rfl⟩
      | _ => exact .inr ⟨rfl, h1⟩
    · rename_i hd
      exact qg0 hm.2 h
theorem Conc.mset {g : Nat} {es es' : Array MapEntry} {cl cl' : Nat} {ks vs : List (List IV)} (hC : Conc C s γ κ a W) (hfr : C.w0.heap.size ≤ g) (hN : ¬ nset C.X γ s.hp.length g) (hg : W.heap[g]? = some (.map es cl)) (hm : mpOK g s.env) (hh : s.hp.all (fun b => b.rows.all fun r => r.all AV.nm) = true)
    (hnew : MapAt (setB W g (.map es' cl')) (nset C.X γ s.hp.length) g ks vs) : Conc C (s.mset ks vs) γ κ a (setB W g (.map es' cl')) := by
  obtain ⟨e, hp⟩ := s
  refine ⟨hC.size, hC.defers, ?_, ?_, hC.inj, hC.own, hC.xlt, ?_, hC.hos, hC.htape, hC.hout, ?_, hC.lent⟩
  · intro t v h
    obtain ⟨u, h1, h2⟩ := qg0 hm h
    obtain ⟨x, h3, h4⟩ := hC.env t u h1
    refine ⟨x, h3, ?_⟩
    rcases h2 with ⟨k1, v1, rfl, rfl⟩ | ⟨rfl, h5⟩
    · cases h4 with
      | mp _ _ _ _ => exact .mp _ _ _ hnew
    · exact qie (s := ⟨e, hp⟩) hg h4 h5
  · intro id b hb
    have hB := hC.blk id b hb
    refine ⟨hB.pos, hB.rows, hB.cell, hB.cap, hB.capm, ?_⟩
    rcases hB.mem with h1 | ⟨g', ys, sp, h1, h2, h3, h4⟩
    · exact .inl h1
    · refine .inr ⟨g', ys, sp, h1, ?_, h3, ?_⟩
      · have hne : g' ≠ g := by
          intro e
          subst e
          have h2' : W.heap[g']? = _ := h2
          rw [hg] at h2'; cases h2'
        exact (qcu hne).trans h2
      · rw [List.all_eq_true] at hh
        have hb' := hh b (List.mem_of_getElem? hb)
        rw [List.all_eq_true] at hb'
        refine h4.mono_mem fun v x hm _ hr => ?_
        obtain ⟨r, hr1, hr2⟩ := List.mem_flatten.1 hm
        have := hb' r hr1
        rw [List.all_eq_true] at this
        exact qie (s := ⟨e, hp⟩) hg hr (this v hr2)
  · intro b hb hl
    rw [qcu (by omega)]
    exact hC.old b hb hl
  · show C.w0.heap.size ≤ (W.heap.setIfInBounds g _).size
    rw [Array.size_setIfInBounds]; exact hC.hsize
def pkA : List IV → AV
  | [v] => .imm v
  | l => .agg (l.map .imm)
theorem qkm {M : Mm} {l : List IV} : ∀ {ys : List Value}, All2 (RepA M) (l.map .imm) ys → All2 (RepI M.W M.N) l ys := by
  induction l with
  | nil => intro ys h; cases h; exact .nil
  | cons v l ih =>
    intro ys h
    cases h with
    | cons h1 h2 => cases h1 with
      | imm _ _ h1 => exact .cons h1 (ih h2)
theorem q9 {M : Mm} {l : List IV} {x : Value} (h : RepA M (pkA l) x) : ∃ ys, All2 (RepI M.W M.N) l ys ∧ x = pkv ys := by
  unfold pkA at h
  split at h
  · cases h with
    | imm _ _ h => exact ⟨[x], .cons h .nil, rfl⟩
  · rename_i hne
    cases h with
    | agg _ xs h =>
      refine ⟨xs, qkm h, ?_⟩
      have hl := h.length
      unfold pkv
      split
      · rename_i y
        exfalso
        simp only [List.length_map, List.length_cons, List.length_nil] at hl
        obtain ⟨v, hv⟩ := List.length_eq_one_iff.1 hl
        exact hne v hv
      · rfl
theorem qmp {M : Mm} {l : List IV} {ys : List Value} (h : All2 (RepI M.W M.N) l ys) : RepA M (pkA l) (pkv ys) := by
  unfold pkA
  split
  · cases h with
    | cons h1 h2 => cases h2; exact .imm _ _ h1
  · rename_i hne
    have hl := h.length
    have e : pkv ys = .agg ys.toArray := by
      unfold pkv
      split
      · exfalso
        simp only [List.length_cons, List.length_nil] at hl
        obtain ⟨v, hv⟩ := List.length_eq_one_iff.1 hl
        exact hne v hv
      · rfl
    rw [e]
    refine .agg _ _ ?_
    clear e hl hne
    induction h with
    | nil => exact .nil
    | cons h1 _ ih => exact .cons (.imm _ _ h1) ih
structure KeyT {α : Type} (P : Program) (t : TypeId) (kv : α → Value) (kf : α → List IV) : Prop where
  check : ∀ e x w, (Instr.checkKey e 10000 t (kv x)).run P w = .ok () w
  miss : ∀ (k : α) (w : World) (es : List MapEntry) (xs : List α), es.map (·.key) = xs.map kv → k ∉ xs → (Instr.findKey t (kv k) es).run P w = .ok none w
  hit : ∀ (k : α) (w : World) (es : List MapEntry) (xs : List α) (i : Nat) (e : MapEntry), es.map (·.key) = xs.map kv → xs[i]? = some k → es[i]? = some e → (∀ j, j < i → xs[j]? ≠ some k) → (Instr.findKey t (kv k) es).run P w = .ok (some (i, e.val)) w
  rep : ∀ {W : World} {N : Nat → Prop} {x : α} {ys : List Value}, All2 (RepI W N) (kf x) ys → pkv ys = kv x
  ex : ∀ (W : World) (N : Nat → Prop) (x : α), ∃ ys, All2 (RepI W N) (kf x) ys
theorem qdl {d : TypeDesc} {q : IntKind} (hd : d = .int q) (kk : IntKind) (k : Int) : ∀ (es : List MapEntry) (xs : List Int) (n : Nat), es.map (·.key) = xs.map (Value.int kk) →
    (k ∉ xs → Instr.findNow d (.int kk k) es n = some none) ∧ (∀ i e, xs[i]? = some k → es[i]? = some e → (∀ j, j < i → xs[j]? ≠ some k) → Instr.findNow d (.int kk k) es n = some (some (n + i, e.val))) := by
  subst hd
  intro es
  induction es with
  | nil =>
    intro xs n h
    have : xs = [] := by simpa using h.symm
    subst this
    exact ⟨fun _ => rfl, fun i e h => by simp at h⟩
  | cons e0 es ih =>
    intro xs n h
    cases xs with
    | nil => simp at h
    | cons x xs =>
      simp only [List.map_cons, List.cons.injEq] at h
      obtain ⟨h1, h2⟩ := h
      obtain ⟨k1, k2⟩ := ih xs (n + 1) h2
      have e1 : Instr.findNow (.int q) (.int kk k) (e0 :: es) n = match (some (k == x) : Option Bool) with
        | some true => some (some (n, e0.val))
        | some false => Instr.findNow (.int q) (.int kk k) es (n + 1)
        | none => none := by
        rw [Instr.findNow, h1]
        simp only [Instr.sameNow, if_true]
        cases (k == x) <;> rfl
      by_cases hx : k = x
      · subst hx
        refine ⟨fun hn => absurd (by simp) hn, fun i e hi he hj => ?_⟩
        have : i = 0 := by
          rcases Nat.eq_zero_or_pos i with h | h
          · exact h
          · exact absurd rfl (hj 0 h)
        subst this
        simp only [List.getElem?_cons_zero, Option.some.injEq] at he
        subst he
        rw [e1]; simp
      · have hb : (k == x) = false := by simpa using hx
        rw [e1, hb]
        refine ⟨fun hn => k1 fun hm => hn (by simp [hm]), fun i e hi he hj => ?_⟩
        cases i with
        | zero => simp at hi; exact absurd hi.symm hx
        | succ i =>
          simp only [List.getElem?_cons_succ] at hi he
          have := k2 i e hi he fun j hjl => by simpa using hj (j + 1) (by omega)
          rw [this, show n + 1 + i = n + (i + 1) by omega]
theorem KeyT.int {P : Program} {t : TypeId} {q : IntKind} (ht : P.underlying t = some (.int q)) (kk : IntKind) : KeyT P t (fun n : Int => .int kk n) (fun n => [.int kk n]) where
  check e x w := by
    show (Instr.checkKey e (9999 + 1) t _).run P w = _
    unfold Instr.checkKey
    simp only [Sem.run_bind, run_underlying ht, Result.andThen]
    rfl
  miss k w es xs h hn := by
    unfold Instr.findKey
    simp only [Sem.run_bind, run_underlying ht, Result.andThen]
    have := (qdl (q := q) rfl kk k es xs 0 h).1 hn
    rw [this]; rfl
  hit k w es xs i e h hi he hj := by
    unfold Instr.findKey
    simp only [Sem.run_bind, run_underlying ht, Result.andThen]
    have := (qdl (q := q) rfl kk k es xs 0 h).2 i e hi he hj
    rw [this, Nat.zero_add]; rfl
  rep h := by
    cases h with
    | cons h1 h2 => cases h1; cases h2; rfl
  ex W N x := ⟨[.int kk x], .cons (.int _ _) .nil⟩
theorem qca {α : Type} {P : Program} {t : TypeId} {kv : α → Value} (heq : ∀ x y w, (Op.equal t (kv x) (kv y)).run P w = .ok (dec (x = y)) w) (k : α) (w : World) : ∀ (es : List MapEntry) (xs : List α) (n : Nat), es.map (·.key) = xs.map kv →
    (k ∉ xs → (Instr.findAsking t (kv k) es n).run P w = .ok none w) ∧ (∀ i e, xs[i]? = some k → es[i]? = some e → (∀ j, j < i → xs[j]? ≠ some k) → (Instr.findAsking t (kv k) es n).run P w = .ok (some (n + i, e.val)) w) := by
  intro es
  induction es with
  | nil =>
    intro xs n h
    have : xs = [] := by simpa using h.symm
    subst this
    exact ⟨fun _ => rfl, fun i e h => by simp at h⟩
  | cons e0 es ih =>
    intro xs n h
    cases xs with
    | nil => simp at h
    | cons x xs =>
      simp only [List.map_cons, List.cons.injEq] at h
      obtain ⟨h1, h2⟩ := h
      obtain ⟨k1, k2⟩ := ih xs (n + 1) h2
      have e1 : (Instr.findAsking t (kv k) (e0 :: es) n).run P w = if dec (k = x) = true then .ok (some (n, e0.val)) w else (Instr.findAsking t (kv k) es (n + 1)).run P w := by
        rw [Instr.findAsking, h1, Sem.run_bind, heq]
        simp only [Result.andThen]
        cases dec (k = x) <;> rfl
      by_cases hx : k = x
      · subst hx
        refine ⟨fun hn => absurd (by simp) hn, fun i e hi he hj => ?_⟩
        have : i = 0 := by
          rcases Nat.eq_zero_or_pos i with h | h
          · exact h
          · exact absurd rfl (hj 0 h)
        subst this
        simp only [List.getElem?_cons_zero, Option.some.injEq] at he
        subst he
        rw [e1, qai rfl]; rfl
      · rw [e1, qu hx]
        refine ⟨fun hn => (by have := k1 fun hm => hn (by simp [hm]); simpa using this), fun i e hi he hj => ?_⟩
        cases i with
        | zero => simp at hi; exact absurd hi.symm hx
        | succ i =>
          simp only [List.getElem?_cons_succ] at hi he
          have := k2 i e hi he fun j hjl => by simpa using hj (j + 1) (by omega)
          simp only [Bool.false_eq_true, if_false]
          rw [this, show n + 1 + i = n + (i + 1) by omega]
theorem KeyT.two {P : Program} {t : TypeId} {fs : Array Field} (ht : P.underlying t = some (.struct fs)) (hc : ∀ e a b w, (Instr.checkKey e 10000 t (.agg #[.string a, .string b])).run P w = .ok () w)
    (heq : ∀ (x y : ByteArray × ByteArray) w, (Op.equal t (.agg #[.string x.1, .string x.2]) (.agg #[.string y.1, .string y.2])).run P w = .ok (dec (x = y)) w) : KeyT P t (fun p : ByteArray × ByteArray => .agg #[.string p.1, .string p.2]) (fun p => [.str p.1, .str p.2]) where
  check e x w := hc e x.1 x.2 w
  miss k w es xs h hn := by
    unfold Instr.findKey
    simp only [Sem.run_bind, run_underlying ht, Result.andThen]
    cases es with
    | nil => rfl
    | cons e0 es =>
      have hnow : Instr.findNow (.struct fs) (.agg #[.string k.1, .string k.2]) (e0 :: es) 0 = none := by
        rw [Instr.findNow]; rfl
      rw [hnow]
      exact (qca heq k w _ xs 0 h).1 hn
  hit k w es xs i e h hi he hj := by
    unfold Instr.findKey
    simp only [Sem.run_bind, run_underlying ht, Result.andThen]
    cases es with
    | nil => simp at he
    | cons e0 es =>
      have hnow : Instr.findNow (.struct fs) (.agg #[.string k.1, .string k.2]) (e0 :: es) 0 = none := by
        rw [Instr.findNow]; rfl
      rw [hnow]
      have := (qca heq k w _ xs 0 h).2 i e hi he hj
      rw [Nat.zero_add] at this
      exact this
  rep h := by
    cases h with
    | cons h1 h2 => cases h1; cases h2 with | cons h1 h2 => cases h1; cases h2; rfl
  ex W N x := ⟨[.string x.1, .string x.2], .cons (.str _) (.cons (.str _) .nil)⟩
def mapOf : AV → Option (List (List IV) × List (List IV))
  | .mp _ ks vs => some (ks, vs)
  | .mpi ks vs => some (ks, vs)
  | _ => none
theorem qa3 {M : Mm} {v : AV} {x : Value} {ks vs : List (List IV)} (h : RepA M v x) (hm : mapOf v = some (ks, vs)) : ∃ g, x = .map (some g) ∧ MapAt M.W M.N g ks vs := by
  cases h with
  | mp g ks' vs' h =>
    simp only [mapOf, Option.some.injEq, Prod.mk.injEq] at hm
    obtain ⟨rfl, rfl⟩ := hm
    exact ⟨g, rfl, h⟩
  | mpi g ks' vs' h =>
    simp only [mapOf, Option.some.injEq, Prod.mk.injEq] at hm
    obtain ⟨rfl, rfl⟩ := hm
    exact ⟨g, rfl, h⟩
  | _ => cases hm
theorem KeyT.keys {α : Type} {P : Program} {t : TypeId} {kv : α → Value} {kf : α → List IV} (K : KeyT P t kv kf) {W : World} {N : Nat → Prop} : ∀ {xs : List α} {yss : List (List Value)}, All2 (All2 (RepI W N)) (xs.map kf) yss → yss.map pkv = xs.map kv := by
  intro xs
  induction xs with
  | nil => intro yss h; cases h; rfl
  | cons x xs ih =>
    intro yss h
    cases h with
    | cons h1 h2 => simp only [List.map_cons, K.rep h1, ih h2]
theorem qbi {P : Program} {t k e : TypeId} (ht : P.underlying t = some (.map k e)) {g : Nat} {es : Array MapEntry} {cl : Nat} {W : World} (hg : W.heap[g]? = some (.map es cl)) {key : Value} (hc : ∀ b, (Instr.checkKey b 10000 k key).run P W = .ok () W) {r : Option (Nat × Value)} (hf : (Instr.findKey k key es.toList).run P W = .ok r W) {z : Value} (hz : (zeroValue e).run P W = .ok z W) (ok : Bool) :
    (Instr.lookup t (.map (some g)) key ok).run P W = .ok (match r with
      | some (_, v) => (if ok then .tuple #[v, .bool true] else v)
      | none => (if ok then .tuple #[z, .bool false] else z)) W := by
  unfold Instr.lookup
  simp only [Sem.run_bind, run_underlying ht, Result.andThen, MapKept.run_getObj_map hg, run_pure, hc, hf]
  cases r with
  | none => simp only [Sem.run_bind, hz, Result.andThen, run_pure]
  | some p => rfl
theorem yci {α : Type} {kv : α → Value} {kf : α → List IV} {t k e : TypeId} (K : KeyT C.P k kv kf) (ht : C.P.underlying t = some (.map k e)) (hz : ∀ w, (zeroValue e).run C.P w = .ok (.int .i64 0) w) (hd : dok C.nt o.dst = true) {m x : Operand} (ho : o.op = .lookup t m x false) {mv : AV} (hm : s.ev m = some mv) {xs : List α} {vs : List (List IV)} (hmv : mapOf mv = some (xs.map kf, vs)) {q : α} (hx : s.ev x = some (pkA (kf q))) (hq : q ∉ xs) : OpOK C s o (s.put o.dst (.imm (.int .i64 0))) :=
  yaj hd fun γ κ a W hC => by
    obtain ⟨g, e1, h0, es, xss, yss, h1, h2, h3, h4, h5, h6⟩ := qa3 (hC.ev hm) hmv
    obtain ⟨ys, k1, k2⟩ := q9 (hC.ev hx)
    rw [K.rep k1] at k2
    refine ⟨.int .i64 0, ?_, .imm _ _ (.int _ _)⟩
    unfold execOp; rw [ho]
    simp only [e1, k2]
    refine qr ?_
    rw [qbi ht (W := W) h1 (fun b => K.check b q W) (K.miss q W es.toList xs (h2.trans (K.keys h5)) hq) (hz W) false]
    rfl
noncomputable def ind (b : Bool) : Int := match b with
  | true => 1
  | false => 0
theorem qmq {p : Prop} : 0 < ind (dec p) ↔ p := by
  by_cases h : p
  · rw [qai h]; simp [ind, h]
  · rw [qu h]; simp [ind, h]
theorem hsx : (∀ p : Prop, (dec p = true) = p) ∧ (∀ p : Prop, (dec p = false) = ¬p) ∧ (∀ {p : Prop} [Decidable p], (decide p = true) = p) ∧ (∀ {p : Prop} {x : Decidable p}, decide p = false ↔ ¬p) ∧ (∀ {α : Type} [BEq α] [LawfulBEq α] {a b : α}, (a == b) = true ↔ a = b) ∧ (∀ {α : Type} [BEq α] [LawfulBEq α] {a b : α}, (a != b) = true ↔ a ≠ b) ∧
    (∀ {α : Type} (a b : α), (a ≠ b) = ¬a = b) ∧ (∀ {α : Type} [BEq α] [LawfulBEq α] {a b : α}, (a == b) = false ↔ a ≠ b) ∧ (∀ {α : Type} [BEq α] [LawfulBEq α] {a b : α}, (a != b) = false ↔ a = b) ∧ (∀ b : Bool, ((!b) = true) = (b = false)) ∧ (∀ b : Bool, ((!b) = false) = (b = true)) ∧ (∀ b : Bool, (¬b = true) = (b = false)) ∧ (∀ b : Bool, (¬b = false) = (b = true)) ∧
    (∀ {α : Type} [LT α] {x y : α}, x > y ↔ y < x) ∧ (∀ {α : Type} [LE α] {x y : α}, x ≥ y ↔ y ≤ x) ∧ (∀ {a b : Int}, ¬a < b ↔ b ≤ a) ∧ (∀ {a b : Int}, ¬a ≤ b ↔ b < a) ∧ (∀ {p : Prop} [Decidable p], ¬¬p ↔ p) ∧ (∀ {α β : Type} {xs : List α} (f : α → β), (List.map f xs).length = xs.length) ∧ (∀ {α : Type}, ([] : List α).length = 0) ∧ (∀ {α : Type} {a : α} {xs : List α}, (a :: xs).length = xs.length + 1) ∧ ∀ {p : Prop}, 0 < ind (dec p) ↔ p :=
  ⟨qc, qi, decide_eq_true_eq, decide_eq_false_iff_not, beq_iff_eq, bne_iff_ne, ne_eq, beq_eq_false_iff_ne, bne_eq_false_iff_eq, Bool.not_eq_true', Bool.not_eq_false', Bool.not_eq_true, Bool.not_eq_false, gt_iff_lt, ge_iff_le, Int.not_lt, Int.not_le, Decidable.not_not, fun f => List.length_map f, List.length_nil, List.length_cons, qmq⟩
theorem qg1 {α : Type} (q : α) : ∀ (xs : List α), q ∈ xs → ∃ i : Nat, xs[i]? = some q ∧ ∀ j : Nat, j < i → xs[j]? ≠ some q
  | [], h => by cases h
  | x :: xs, h => by
    by_cases e : x = q
    · subst e; exact ⟨0, rfl, fun j hj => by omega⟩
    · obtain ⟨i, h1, h2⟩ := qg1 q xs (by rcases List.mem_cons.1 h with h | h; exact absurd h.symm e; exact h)
      refine ⟨i + 1, by simpa using h1, fun j hj => ?_⟩
      cases j with
      | zero => simpa using e
      | succ j => simpa using h2 j (by omega)
theorem ycj {α : Type} {kv : α → Value} {kf : α → List IV} {t k e : TypeId} (K : KeyT C.P k kv kf) (ht : C.P.underlying t = some (.map k e)) (hz : ∀ w, (zeroValue e).run C.P w = .ok (.int .i64 0) w) (hd : dok C.nt o.dst = true) {m x : Operand} (ho : o.op = .lookup t m x false) {mv : AV} (hm : s.ev m = some mv) {xs : List α} {vs : List (List IV)} (hmv : mapOf mv = some (xs.map kf, vs)) (hvs : vs = xs.map fun _ => [.int .i64 1]) {q : α} (hx : s.ev x = some (pkA (kf q))) : OpOK C s o (s.put o.dst (.imm (.int .i64 (ind (dec (q ∈ xs)))))) :=
  yaj hd fun γ κ a W hC => by
    obtain ⟨g, e1, h0, es, xss, yss, h1, h2, h3, h4, h5, h6⟩ := qa3 (hC.ev hm) hmv
    obtain ⟨ys, k1, k2⟩ := q9 (hC.ev hx)
    rw [K.rep k1] at k2
    refine ⟨.int .i64 (ind (dec (q ∈ xs))), ?_, .imm _ _ (.int _ _)⟩
    unfold execOp; rw [ho]
    simp only [e1, k2]
    refine qr ?_
    have hkeys := h2.trans (K.keys h5)
    by_cases hq : q ∈ xs
    · obtain ⟨i, i1, i2⟩ := qg1 q xs hq
      have hlen : es.toList.length = xs.length := by simpa using congrArg List.length hkeys
      have hil : i < xs.length := (List.getElem?_eq_some_iff.1 i1).1
      obtain ⟨ent, hent⟩ : ∃ ent, es.toList[i]? = some ent := ⟨_, List.getElem?_eq_getElem (by omega)⟩
      have hval : ent.val = .int .i64 1 := by
        subst hvs
        have a1 : (xs.map fun _ => [IV.int .i64 1])[i]? = some [.int .i64 1] := by rw [List.getElem?_map, i1]; rfl
        obtain ⟨y, b1, b2⟩ := h6.get a1
        have c1 := congrArg (·[i]?) h3
        simp only [List.getElem?_map, hent, b1, Option.map_some, Option.some.injEq] at c1
        rw [c1]
        cases b2 with
        | cons b2 b3 => cases b3; cases b2; rfl
      rw [qbi ht (W := W) h1 (fun b => K.check b q W) (K.hit q W es.toList xs i ent hkeys i1 hent i2) (hz W) false]
      rw [qai hq]
      simp only [hval]
      rfl
    · rw [qbi ht (W := W) h1 (fun b => K.check b q W) (K.miss q W es.toList xs hkeys hq) (hz W) false, qu hq]
      rfl
theorem OpOK.look2 {α : Type} {kv : α → Value} {kf : α → List IV} {t k e : TypeId} (K : KeyT C.P k kv kf) (ht : C.P.underlying t = some (.map k e)) (hz : ∀ w, (zeroValue e).run C.P w = .ok (.int .i64 0) w) (hd : dok C.nt o.dst = true) {m x : Operand} (ho : o.op = .lookup t m x false) {mv : AV} (hm : s.ev m = some mv) {xs : List α} {vs : List (List IV)} {q : α} {z : Int} (hmv : mapOf mv = some (xs.map kf ++ [kf q], vs ++ [[.int .i64 z]])) (hx : s.ev x = some (pkA (kf q))) (hl : vs.length = xs.length) (hq : q ∉ xs) : OpOK C s o (s.put o.dst (.imm (.int .i64 z))) :=
  yaj hd fun γ κ a W hC => by
    obtain ⟨g, e1, h0, es, xss, yss, h1, h2, h3, h4, h5, h6⟩ := qa3 (hC.ev hm) hmv
    obtain ⟨ys, k1, k2⟩ := q9 (hC.ev hx)
    rw [K.rep k1] at k2
    refine ⟨.int .i64 z, ?_, .imm _ _ (.int _ _)⟩
    unfold execOp; rw [ho]
    simp only [e1, k2]
    refine qr ?_
    have hkeys : es.toList.map (·.key) = (xs ++ [q]).map kv := h2.trans (K.keys (xs := xs ++ [q]) (by simpa using h5))
    have i1 : (xs ++ [q])[xs.length]? = some q := by simp
    have hlen : es.toList.length = xs.length + 1 := by simpa using congrArg List.length hkeys
    obtain ⟨ent, hent⟩ : ∃ ent, es.toList[xs.length]? = some ent := ⟨_, List.getElem?_eq_getElem (by omega)⟩
    have hval : ent.val = .int .i64 z := by
      have a1 : (vs ++ [[IV.int .i64 z]])[xs.length]? = some [.int .i64 z] := by rw [← hl]; simp
      obtain ⟨y, b1, b2⟩ := h6.get a1
      have c1 := congrArg (·[xs.length]?) h3
      simp only [List.getElem?_map, hent, b1, Option.map_some, Option.some.injEq] at c1
      rw [c1]
      cases b2 with
      | cons b2 b3 => cases b3; cases b2; rfl
    rw [qbi ht (W := W) h1 (fun b => K.check b q W) (K.hit q W es.toList _ xs.length ent hkeys i1 hent fun j hj e => ?_) (hz W) false]
    · simp only [hval]
      rfl
    · rw [List.getElem?_append_left hj] at e
      exact hq (List.mem_of_getElem? e)
theorem qdm {α β : Type} {R : α → β → Prop} {l : List α} {m : List β} (h : All2 R l m) {a : α} {b : β} (hab : R a b) : All2 R (l ++ [a]) (m ++ [b]) := h.append (.cons hab .nil)
theorem qif {W : World} {N : Nat → Prop} {g : Nat} {es : Array MapEntry} {xss yss : List (List Value)} {ks vs : List (List IV)} (h0 : ¬ N g) (h1 : W.heap[g]? = some (.map es es.size)) (h2 : es.toList.map (·.key) = xss.map pkv) (h3 : es.toList.map (·.val) = yss.map pkv) (h4 : es.toList.map (·.born) = List.range es.size) (h5 : All2 (All2 (RepI W N)) ks xss) (h6 : All2 (All2 (RepI W N)) vs yss)
    {kx vx : List Value} {k v : List IV} (hk : All2 (RepI W N) k kx) (hv : All2 (RepI W N) v vx) : MapAt (setB W g (.map (es.push { key := pkv kx, val := pkv vx, born := es.size }) (es.size + 1))) N g (ks ++ [k]) (vs ++ [v]) := by
  refine ⟨h0, es.push { key := pkv kx, val := pkv vx, born := es.size }, xss ++ [kx], yss ++ [vx], ?_, ?_, ?_, ?_, ?_, ?_⟩
  · rw [qfa h1, Array.size_push]
  · simp [h2]
  · simp [h3]
  · simp only [Array.toList_push, List.map_append, h4, Array.size_push, List.range_succ, List.map_cons, List.map_nil]
  · exact qdm (h5.mono fun _ _ h => h.mono fun _ _ h => h.inB h1) (hk.mono fun _ _ h => h.inB h1)
  · exact qdm (h6.mono fun _ _ h => h.mono fun _ _ h => h.inB h1) (hv.mono fun _ _ h => h.inB h1)
theorem ya3 {α : Type} {kv : α → Value} {kf : α → List IV} {t k e : TypeId} (K : KeyT C.P k kv kf) (ht : C.P.underlying t = some (.map k e)) (hd : o.dst = none) {m x y : Operand} (ho : o.op = .mapUpdate t m x y ∨ o.op = .insert t m x y) {g : Nat} (hfr : C.w0.heap.size ≤ g) {xs : List α} {ks vs : List (List IV)} (hm : s.ev m = some (.mp g ks vs)) (hks : ks = xs.map kf) {q : α} (hx : s.ev x = some (pkA (kf q))) {v : List IV} {va : AV} (hy : s.ev y = some va)
    (hva : ∀ (M : Mm) z, RepA M va z → ∃ zs, All2 (RepI M.W M.N) v zs ∧ z = pkv zs) (hq : q ∉ xs) (hok : mpOK g s.env) (hh : s.hp.all (fun b => b.rows.all fun r => r.all AV.nm) = true) : OpOK C s o (s.mset (ks ++ [kf q]) (vs ++ [v])) :=
  ycf hd fun γ κ a W hC => by
    obtain ⟨g', e1, h0, es, xss, yss, h1, h2, h3, h4, h5, h6⟩ := qa3 (hC.ev hm) rfl
    have eg : g' = g := by
      have h := hC.ev hm
      rw [e1] at h
      cases h; rfl
    subst eg
    obtain ⟨kx, k1, k2⟩ := q9 (hC.ev hx)
    obtain ⟨vx, v1, v2⟩ := hva _ _ (hC.ev hy)
    subst hks
    refine ⟨γ, κ, setB W g' (.map (es.push { key := pkv kx, val := pkv vx, born := es.size }) (es.size + 1)), ?_, hC.mset hfr h0 h1 hok hh (qif h0 h1 h2 h3 h4 h5 h6 k1 v1)⟩
    have hkq := K.rep k1
    have hrun : (Instr.mapUpdate t (.map (some g')) (pkv kx) (pkv vx)).run C.P W = .ok () (setB W g' (.map (es.push { key := pkv kx, val := pkv vx, born := es.size }) (es.size + 1))) := by
      unfold Instr.mapUpdate
      rw [hkq]
      have h1' : W.heap[g']? = _ := h1
      simp only [Sem.run_bind, run_underlying ht, Result.andThen, MapKept.run_getObj_map h1', K.check, K.miss q W es.toList xs (h2.trans (K.keys h5)) hq]
      rw [MapKept.run_setObj_map _ h1']
      rfl
    unfold execOp
    rcases ho with ho | ho <;> rw [ho] <;> simp only [e1, k2, v2] <;> exact qen hrun
theorem OpOK.ent0 {α : Type} {kv : α → Value} {kf : α → List IV} {t k e : TypeId} (K : KeyT C.P k kv kf) (ht : C.P.underlying t = some (.map k e)) (hz : ∀ w, (zeroValue e).run C.P w = .ok (.int .i64 0) w) {d : Nat} (hd : o.dst = some d) (hdk : dok C.nt o.dst = true) {m x : Operand} (ho : o.op = .mapEntry t m x) {g : Nat} (hfr : C.w0.heap.size ≤ g) {xs : List α} {ks vs : List (List IV)} (hm : s.ev m = some (.mp g ks vs)) (hks : ks = xs.map kf) {q : α} (hx : s.ev x = some (pkA (kf q)))
    (hq : q ∉ xs) (hok : mpOK g s.env) (hh : s.hp.all (fun b => b.rows.all fun r => r.all AV.nm) = true) : OpOK C s o ((s.mset (ks ++ [kf q]) (vs ++ [[.int .i64 0]])).put o.dst (.tup [.imm (.int .i64 0), .imm (.int .i64 xs.length)])) :=
  OpOK.val hdk fun γ κ a W hC => by
    obtain ⟨g', e1, h0, es, xss, yss, h1, h2, h3, h4, h5, h6⟩ := qa3 (hC.ev hm) rfl
    have eg : g' = g := by
      have h := hC.ev hm
      rw [e1] at h
      cases h; rfl
    subst eg
    obtain ⟨kx, k1, k2⟩ := q9 (hC.ev hx)
    subst hks
    have hkeys := h2.trans (K.keys h5)
    have hlen : es.size = xs.length := by simpa using congrArg List.length hkeys
    refine ⟨.tuple #[.int .i64 0, .int .i64 es.size], γ, κ, setB W g' (.map (es.push { key := pkv kx, val := pkv [.int .i64 0], born := es.size }) (es.size + 1)), ?_, hC.mset hfr h0 h1 hok hh (qif h0 h1 h2 h3 h4 h5 h6 k1 (.cons (.int _ _) .nil)), ?_⟩
    · have hkq := K.rep k1
      have hrun : (Instr.mapEntry t (.map (some g')) (pkv kx)).run C.P W = .ok (.tuple #[.int .i64 0, .int .i64 es.size]) (setB W g' (.map (es.push { key := pkv kx, val := pkv [.int .i64 0], born := es.size }) (es.size + 1))) := by
        unfold Instr.mapEntry
        rw [hkq]
        have h1' : W.heap[g']? = _ := h1
        simp only [Sem.run_bind, run_underlying ht, Result.andThen, MapKept.run_getObj_map h1', K.check, K.miss q W es.toList xs hkeys hq, hz]
        rw [MapKept.run_setObj_map _ h1']
        rfl
      unfold execOp
      rw [ho]
      simp only [e1, k2]
      exact qr hrun
    · rw [hlen]
      exact .tup _ [.int .i64 0, .int .i64 xs.length] (.cons (.imm _ _ (.int _ _)) (.cons (.imm _ _ (.int _ _)) .nil))
theorem OpOK.ent1 {t : TypeId} (hd : o.dst = none) {m x y : Operand} (ho : o.op = .entryStore t m x y) {g n : Nat} (hfr : C.w0.heap.size ≤ g) {ks vs : List (List IV)} {u : List IV} (hm : s.ev m = some (.mp g ks (vs ++ [u]))) (hn : n = vs.length) (hx : s.ev x = some (.imm (.int .i64 n))) {v : List IV} (hy : s.ev y = some (pkA v))
    (hok : mpOK g s.env) (hh : s.hp.all (fun b => b.rows.all fun r => r.all AV.nm) = true) : OpOK C s o (s.mset ks (vs ++ [v])) :=
  ycf hd fun γ κ a W hC => by
    obtain ⟨g', e1, h0, es, xss, yss, h1, h2, h3, h4, h5, h6⟩ := qa3 (hC.ev hm) rfl
    have eg : g' = g := by
      have h := hC.ev hm
      rw [e1] at h
      cases h; rfl
    subst eg
    obtain ⟨vx, v1, v2⟩ := q9 (hC.ev hy)
    have h1' : W.heap[g']? = _ := h1
    have hx' : a.eval x = .int .i64 n := by
      have h := hC.ev hx
      cases h with
      | imm _ _ h => exact h.int_inv
    have hes : es.size = vs.length + 1 := by
      have a1 := congrArg List.length h3
      have a2 := h6.length
      simp at a1 a2
      omega
    have hns : n < es.size := by omega
    have hfind : es.findIdx? (fun e => (e.born : Int) == (n : Int)) = some n := by
      rw [Array.findIdx?_eq_some_iff_getElem]
      have hb : ∀ j (hj : j < es.size), es[j].born = j := by
        intro j hj
        have := congrArg (·[j]?) h4
        simp only [List.getElem?_map, List.getElem?_range hj, Array.getElem?_toList, Array.getElem?_eq_getElem hj, Option.map_some, Option.some.injEq] at this
        exact this
      refine ⟨hns, ?_, fun j hj => ?_⟩
      · rw [hb n hns]; simp
      · rw [hb j (by omega)]
        simp; omega
    refine ⟨γ, κ, setB W g' (.map (es.modify n fun e => { e with val := pkv vx }) es.size), ?_, hC.mset hfr h0 h1 hok hh ?_⟩
    · unfold execOp
      rw [ho]
      simp only [e1, v2, hx']
      refine qen ?_
      unfold Instr.entryStore
      have hint : (asInt (.int .i64 (n : Int))).run C.P W = .ok (n : Int) W := rfl
      rw [run_bind (MapKept.run_getObj_map h1')]
      simp only
      rw [run_bind hint, hfind]
      simp only
      rw [MapKept.run_setObj_map _ h1']
      rfl
    · have hmod : (es.modify n fun e => { e with val := pkv vx }).toList = es.toList.take n ++ [{ es[n] with val := pkv vx }] := by
        rw [Array.toList_modify]
        apply List.ext_getElem?
        intro j
        rw [List.getElem?_modify]
        by_cases e : j = n
        · subst e
          rw [List.getElem?_append_right (by simp; omega), Array.getElem?_toList, Array.getElem?_eq_getElem hns]
          simp [Nat.min_eq_left (Nat.le_of_lt hns)]
        · by_cases h : j < n
          · rw [List.getElem?_append_left (by simp; omega), List.getElem?_take_of_lt h]; simp [Ne.symm e]
          · rw [List.getElem?_eq_none (l := es.toList) (by simp; omega), List.getElem?_eq_none (by simp; omega)]; rfl
      have hfull : es.toList = es.toList.take n ++ [es[n]] := by
        have := List.take_succ_eq_append_getElem (l := es.toList) (i := n) (by simpa using hns)
        rw [Array.getElem_toList] at this
        rw [← this, List.take_of_length_le (by simp; omega)]
      obtain ⟨yl, y1, rfl⟩ : ∃ yl y1, yss = yl ++ [y1] := by
        have hl : yss.length = vs.length + 1 := by rw [← h6.length]; simp
        refine ⟨yss.take vs.length, yss[vs.length]'(by omega), ?_⟩
        rw [← List.take_succ_eq_append_getElem, List.take_of_length_le (by omega)]
      have hyl : All2 (All2 (RepI W (nset C.X γ s.hp.length))) vs yl := by
        have hl : yl.length = vs.length := by have := h6.length; simp at this; omega
        have := h6.take vs.length
        rw [List.take_left' rfl, List.take_left' hl] at this
        exact this
      have hfl := hfull
      refine ⟨h0, es.modify n (fun e => { e with val := pkv vx }), xss, yl ++ [vx], ?_, ?_, ?_, ?_, h5.mono fun _ _ h => h.mono fun _ _ h => h.inB h1, qdm (hyl.mono fun _ _ h => h.mono fun _ _ h => h.inB h1) (v1.mono fun _ _ h => h.inB h1)⟩
      · rw [qfa h1', Array.size_modify]
      · rw [hmod, ← h2]
        conv => rhs; rw [hfl]
        simp
      · rw [hfl] at h3
        simp only [List.map_append, List.map_cons, List.map_nil] at h3
        have hl : (es.toList.take n).length = yl.length := by
          have := h6.length
          simp at this
          simp; omega
        have h3a := (List.append_inj h3 (by simpa using hl)).1
        rw [hmod]
        simp only [List.map_append, List.map_cons, List.map_nil, h3a]
      · rw [hmod, Array.size_modify, ← h4]
        conv => rhs; rw [hfl]
        simp
def Mid (C : Cx) (M s : St) : Prop := Le C s M
theorem ybh {x a b : Code} {t : Nat} (M : St) (h1 : AW C x (Then (Mid C M) Q) s) (h2 : AW C (.cond (.tmp t) a b) Q M) : AW C (.seq x (.cond (.tmp t) a b)) Q s :=
  ym (h1.mono fun e s h => by
    cases e with
    | normal => exact yb3 h h2
    | _ => exact h)
theorem Mid.of {M : St} (h : Le C s M) : Mid C M s := h
theorem qeq {e : List (Nat × AV)} {d : Nat} {B B' : Bool} (h : get e d = some (.imm (.bool B))) (hB : B = B') : get e d = some (.imm (.bool B')) := by rw [h, hB]
theorem ql7 {b : Bool} : dec (b = true) = b := by cases b <;> simp [qa]
def Meet (C : Cx) (P : Prop) (M s : St) : Prop := P ∧ Le C s M
theorem ybn {x a b y : Code} {t : Nat} (P : Prop) (M : St) (h1 : AW C (.seq x (.cond (.tmp t) a b)) (Then (Meet C P M) Q) s) (h2 : P → AW C y Q M) : AW C (.seq (.seq x (.cond (.tmp t) a b)) y) Q s :=
  ym (h1.mono fun e s h => by
    cases e with
    | normal => exact yb3 h.2 (h2 h.1)
    | _ => exact h)
end
end Go.Proofs.YtmhejcnaanocpaaGreat.A
