/- The abstract walk, part Zb: lists that are made in a place that was kept for them; calls that are lent such places; maps that stay; pointers held against nil. -/
import Derived.Test.YteijifoobaoclaaGreatAwZa
namespace Go.Proofs.YteijifoobaoclaaGreat.A
open Go.RowKit
set_option linter.unusedVariables false
set_option linter.unusedSimpArgs false
section
variable {C : Cx} {s t : St} {γ : Nat → Option Nat} {κ : Nat → Nat} {a : Act} {W : World} {o : Oper} {T : List (Nat × TI)} {l r rest : List Oper} {Q : Exit → St → Prop}
theorem OpOK.append_nocap_at (p : Nat) (hT : TsOK C.P T) (hd : dok C.nt o.dst = true) {x y : Operand} {t tx e : TypeId} (ho : o.op = .call ⟨.builtin .append, #[x, y], #[t, tx]⟩) {i ie : TI} (hi : look T t = some i) (hk : i.kd = .sl e) (hie : look T e = some ie) (hpos : 0 < ie.sz) (hx : s.ev x = some .nocap)
    {sz : Nat} (hp : nth s.hp p = some ⟨e, sz, []⟩) (hsz : sz = ie.sz) {rows2 : List (List AV)} (hne : rows2 ≠ []) (hsrc : SrcA C s ie tx y rows2) (hbound : rows2.length * ie.bytes ≤ 140737488355328) (h63 : rows2.length ≤ 9223372036854775807) :
    OpOK C s o (St.put ⟨s.env, s.hp.set p ⟨e, sz, rows2⟩⟩ o.dst (.os p rows2.length)) :=
  OpOK.val hd fun γ κ a W hC => by
    subst hsz
    rw [nth_eq] at hp
    have hid : p < s.hp.length := (List.getElem?_eq_some_iff.1 hp).1
    obtain ⟨d, d1, d2, _⟩ := (hT t i hi).und
    rw [hk] at d2
    obtain rfl := kd_sl d2
    have hTe := hT e ie hie
    obtain ⟨it, z, i1, i2, i3, i4, i5⟩ := hTe.info
    obtain ⟨hr2, hc2, hs⟩ := hsrc
    obtain ⟨news, hs1, hs2⟩ := hs γ κ a W hC
    have h1 := hC.ev hx
    obtain ⟨A, hA⟩ : ∃ A, a.eval x = .slice A 0 0 := by
      generalize a.eval x = xv at h1
      cases h1; exact ⟨_, rfl⟩
    have hs1' : Src C.P it.size tx (a.eval y) rows2.length news W := by rw [i2]; exact hs1
    have hpos2 : 0 < rows2.length := List.length_pos_iff.2 hne
    have hold : (Builtin.firstCells it.size 0 (.slice A 0 0)).run C.P W.drew = .ok ([] : List Value).toArray W.drew := by
      cases A with
      | none => exact run_firstCells_none W.drew it.size 0 0 0
      | some g => exact run_firstCells_some W.drew it.size 0 g 0 0 [] (by simp) (by intro j u hj; simp at hj)
    have hrun := run_append_grow_src W t tx o.type e it z d1 i1 i4 A 0 0 [] hold (a.eval y) rows2.length news hs1' (by omega) (by omega) (growslice_fits (by omega) (by rw [i3, Nat.zero_add]; exact hbound))
    have hge := grownCap_ge W (0 + rows2.length) 0 e
    have hcm : grownCap W (0 + rows2.length) 0 e ≤ maxLen := grownCap_le_maxLen W _ 0 e (by simpa [maxLen] using h63)
    have hzl : z.cells.size = ie.sz := by
      have := (constAVs_rep (M := s.mm C γ κ W) i5).length
      rw [hTe.zl] at this
      simpa using this.symm
    have hnl : news.length = rows2.length * ie.sz := by rw [← hs2.length, flat_len hr2]
    generalize hcap : grownCap W (0 + rows2.length) 0 e = cap at hrun hge hcm
    obtain ⟨γ', κ', k1, k2, k3⟩ := hC.moved (id := p) (b := ⟨e, ie.sz, []⟩) hp (rows2 := rows2) (ys2 := news) (sp2 := (Builtin.zeroCells z.cells (cap - (0 + rows2.length))).toList) (k := cap) (by simpa using hge) hcm (by
        simp only [List.length_append, Array.length_toList, size_zeroCells, hzl, hnl]
        rw [← Nat.add_mul]
        congr 1
        omega) hne hr2 hc2 (by simpa using hs2)
    have e2 : (([] : List Value) ++ news).toArray ++ Builtin.zeroCells z.cells (cap - (0 + rows2.length)) = (news ++ (Builtin.zeroCells z.cells (cap - (0 + rows2.length))).toList).toArray := by
      apply Array.toList_inj.1; simp
    rw [e2] at hrun
    simp only [List.nil_append] at k1
    refine ⟨_, γ', κ', _, append_exec ho (by rw [hA]; exact hrun), k1, ?_⟩
    rw [Nat.zero_add]
    refine .os _ _ ⟨e, ie.sz, rows2⟩ _ _ _ ?_ (Nat.le_refl _) fun _ => ⟨?_, rfl, k3.symm⟩
    · show (s.hp.set p _)[p]? = _
      rw [List.getElem?_set_self hid]
    · rw [show (St.mm ⟨s.env, s.hp.set p ⟨e, ie.sz, rows2⟩⟩ C γ' κ' _).γ p = γ' p from rfl, k2]; rfl
theorem OpOK.make_at (p : Nat) (hT : TsOK C.P T) (hd : dok C.nt o.dst = true) {t e : TypeId} {x y : Operand} (ho : o.op = .makeSlice t x y) {i ie : TI} (hi : look T t = some i) (hk : i.kd = .sl e) (hie : look T e = some ie) {k k2 : IntKind} {n m : Int} (hx : s.ev x = some (.imm (.int k n))) (hy : s.ev y = some (.imm (.int k2 m)))
    {sz : Nat} (hp : nth s.hp p = some ⟨e, sz, []⟩) (hsz : sz = ie.sz) (h0 : 0 < n) (h1 : n ≤ m) (hn : m ≤ 9223372036854775807) (hcell : ie.zero.all AV.cell = true) (hby : (ie.bytes : Int) * m ≤ 140737488355328) :
    OpOK C s o (St.put ⟨s.env, s.hp.set p ⟨e, sz, List.replicate n.toNat ie.zero⟩⟩ o.dst (.os p n.toNat)) :=
  OpOK.val hd fun γ κ a W hC => by
    subst hsz
    rw [nth_eq] at hp
    have hid : p < s.hp.length := (List.getElem?_eq_some_iff.1 hp).1
    obtain ⟨d, d1, d2, _⟩ := (hT t i hi).und
    rw [hk] at d2
    obtain rfl := kd_sl d2
    have hTe := hT e ie hie
    obtain ⟨it, z, i1, i2, i3, i4, i5⟩ := hTe.info
    have hz := constAVs_rep (M := s.mm C γ κ W) i5
    have hzl : z.cells.toList.length = ie.sz := by
      have := hz.length
      rw [hTe.zl] at this
      exact this.symm
    have h1x := hC.ev hx
    have h2x := hC.ev hy
    cases h1x with
    | imm _ _ h1x => cases h2x with
      | imm _ _ h2x =>
        have hmade : All2 (RepA (s.mm C γ κ W)) (reps m.toNat ie.zero) (madeCells z.cells (m.toNat * it.size)).toList := by
          have := madeCells_rep hz m.toNat
          rw [hzl] at this
          unfold madeCells
          rw [i2]
          simpa using this
        have hsplit : reps m.toNat ie.zero = reps n.toNat ie.zero ++ reps (m.toNat - n.toNat) ie.zero := by
          rw [← reps_add]; congr 1; omega
        rw [hsplit] at hmade
        have hm2 := hmade.split.1
        have hml : (madeCells z.cells (m.toNat * it.size)).toList.length = m.toNat * ie.sz := by rw [Array.length_toList, size_madeCells, i2]
        obtain ⟨γ', κ', c1, c2, c3⟩ := hC.place (p := p) (ty := e) (sz := ie.sz) hp (rows := List.replicate n.toNat ie.zero) (ys := (madeCells z.cells (m.toNat * it.size)).toList.take (reps n.toNat ie.zero).length) (sp := (madeCells z.cells (m.toNat * it.size)).toList.drop (reps n.toNat ie.zero).length) (k := m.toNat) (by simp; omega) (by simp only [maxLen]; omega) (by rw [List.take_append_drop, hml]) (by
            intro e
            have := congrArg List.length e
            simp at this
            omega) (fun r hr => by rw [(List.mem_replicate.1 hr).2]; exact hTe.zl) (fun c hc => by
            obtain ⟨r, hr, hc⟩ := List.mem_flatten.1 hc
            rw [(List.mem_replicate.1 hr).2] at hc
            exact List.all_eq_true.1 hcell c hc) (by rw [reps_flat]; exact hm2)
        rw [List.take_append_drop, Array.toArray_toList] at c1
        refine ⟨.slice (some ⟨W.heap.size, 0, none⟩) n.toNat m.toNat, γ', κ', _, ?_, c1, ?_⟩
        · unfold execOp; rw [ho]
          simp only [h1x.int_inv, h2x.int_inv]
          exact val_run (run_make (P := C.P) W t e it z d1 i1 i4 k k2 n m (by omega) h1 (by rw [i3]; omega) hn)
        · refine .os _ _ ⟨e, ie.sz, List.replicate n.toNat ie.zero⟩ _ _ _ ?_ (by simp) fun _ => ⟨?_, rfl, c3.symm⟩
          · show (s.hp.set p _)[p]? = _
            rw [List.getElem?_set_self hid]
          · rw [show (St.mm ⟨s.env, s.hp.set p ⟨e, ie.sz, List.replicate n.toNat ie.zero⟩⟩ C γ' κ' _).γ p = γ' p from rfl, c2]; rfl
/-- A call that is lent own blocks, ready to go on. -/
theorem AL.callG (m : List Nat) (n : Nat) (hw : awant l s o = some true) {fo : Operand} {args : Array Operand} {ats : Array TypeId} (ho : o.op = .call ⟨.value fo, args, ats⟩) (hd : dok C.nt o.dst = true) (hn : Nat.beq (len s.hp) n = true) {f : Nat} {caps : List AV} (hfo : s.ev fo = some (aFn f caps)) {vs : List AV} (hx : evs s args.toList = some vs)
    {hp0 : List Blk} {as : List AV} {r : AV} {hp1 : List Blk} (hc : GenC C.P f hp0 as r hp1)
    (hargs : vs ++ caps = as.map (ren (rho m n))) (hhp : m.map (nth s.hp) = hp0.map (fun b => some (renB (rho m n) b))) (hnd : nodupB m = true)
    (hs0 : as.all (AV.sc (len m)) = true) (hs1 : hp0.all (fun b => b.rows.all fun r => r.all (AV.sc1 (len m))) = true) (hs2 : r.sc (len hp1) = true) (hs3 : hp1.all (fun b => b.rows.all fun r => r.all (AV.sc1 (len hp1))) = true) (hge : Nat.ble (len m) (len hp1) = true)
    {hpA : List Blk} (eA : hp1.map (renB (rho m n)) = hpA) {r' : AV} (er : ren (rho m n) r = r') {env : List (Nat × AV)} {h2 : List Blk} (e2 : St.put ⟨s.env, setAll s.hp m hpA ++ hpA.drop (len m)⟩ o.dst r' = ⟨env, h2⟩) (k : AL C l Q rest ⟨env, h2⟩) : AL C l Q (o :: rest) s := by
  have hn' := Nat.eq_of_beq_eq_true hn
  rw [len_eq] at hn'
  subst hn'
  have := OpOK.callG ho hd hfo hx m hc hargs hhp hnd hs0 hs1 hs2 hs3 (Nat.le_of_ble_eq_true hge)
  rw [List.map_drop, eA, er, e2] at this
  exact AL.op hw this k
/-- The same in a region that draws: one place that was kept is filled. -/
theorem LS.callG1 (p : Nat) (hw : awant l s o = some true) {fo : Operand} {args : Array Operand} {ats : Array TypeId} (ho : o.op = .call ⟨.value fo, args, ats⟩) (hd : dok C.nt o.dst = true) {f : Nat} (hfo : s.ev fo = some (.imm (.fn f))) {vs : List AV} (hx : evs s args.toList = some vs)
    {ty sz : Nat} {b1 : Blk} {r : AV} (hc : GenC C.P f [⟨ty, sz, []⟩] vs r [b1]) (him : vs.all AV.im = true) (hren : ∀ n, vs.map (ren (rho [p] n)) = vs) (hs0 : vs.all (AV.sc 1) = true) (hp : nth s.hp p = some ⟨ty, sz, []⟩) (hs2 : r.sc 1 = true) (hs3 : (b1.rows.all fun r => r.all (AV.sc1 1)) = true)
    {bA : Blk} (eA : ∀ n, renB (rho [p] n) b1 = bA) {r' : AV} (er : ∀ n, ren (rho [p] n) r = r') :
    LS C l s o (mkFx l s o (.blk p bA r') [p]) :=
  LS.blk [p] hw fun s' hl => by
    have hp' := (hl.xb p (by simp)).trans hp
    have h1 : s'.ev fo = some (aFn f []) := (hl.ev fo (call_mem ho).1).trans hfo
    have h2 : evs s' args.toList = some vs := (hl.evs fun x hx => (call_mem ho).2 x hx).trans hx
    have := OpOK.callG ho hd (s := s') h1 h2 [p] hc (by rw [List.append_nil, hren]) (by simp only [List.map_cons, List.map_nil, hp']; rfl) rfl hs0 rfl hs2 (by simp only [len, List.all_cons, List.all_nil, Bool.and_true]; exact hs3) (by simp [len])
    simp only [List.map_cons, List.map_nil, eA, er, setAll, len, List.drop_succ_cons, List.drop_nil, List.append_nil] at this
    exact this
def isOwn (s : St) (q : AV) : Bool :=
  match q with
  | .ptr id ver _ _ => (match nth s.hp id with
    | some b => Nat.beq ver (len b.rows)
    | none => false)
  | _ => false
theorem isOwn_val (hC : Conc C s γ κ a W) {q : AV} {x : Value} (h : isOwn s q = true) (hr : RepA (s.mm C γ κ W) q x) : ∃ ad, x = .pointer (some ad) := by
  unfold isOwn at h
  split at h
  · rename_i id ver row off
    split at h
    · rename_i b hb
      have hv := Nat.eq_of_beq_eq_true h
      rw [len_eq] at hv
      rw [nth_eq] at hb
      obtain ⟨g, _, e⟩ := hr.ptr_val hb hv
      exact ⟨_, e⟩
    · cases h
  · cases h
theorem OpOK.ptrnil (hT : TsOK C.P T) (hd : dok C.nt o.dst = true) {ty t2 : TypeId} {x y : Operand} (ho : o.op = .binOp .eql ty x y t2) (hu : C.P.underlying ty = some (.pointer (C.P.pointee ty))) {q : AV} (hx : s.ev x = some q) (hq : isOwn s q = true) (hy : s.ev y = some (.imm .nilp)) : OpOK C s o (s.put o.dst (.imm (.bool false))) :=
  OpOK.quiet hd fun γ κ a W hC => by
    obtain ⟨ad, e⟩ := isOwn_val hC hq (hC.ev hx)
    have h2 := hC.ev hy
    have e2 : a.eval y = .pointer none := by
      generalize a.eval y = yv at h2
      cases h2 with
      | imm _ _ h2 => cases h2; rfl
    refine ⟨.bool false, bin_run ho (eqGuard_run (by rw [e, e2]) W) ?_, .imm _ _ (.bool _)⟩
    rw [e, e2]
    have := run_equalIn_pointer_nil (P := C.P) W 9999 ty (some ad) hu
    have h3 : (Op.equal ty (.pointer (some ad)) (.pointer none)).run C.P W = .ok false W := this
    unfold binOp
    simp only [Sem.run_bind, h3, Result.andThen_ok]
    rfl
theorem OpOK.nilnil (hT : TsOK C.P T) (hd : dok C.nt o.dst = true) {ty t2 : TypeId} {x y : Operand} (ho : o.op = .binOp .eql ty x y t2) (hu : C.P.underlying ty = some (.pointer (C.P.pointee ty))) (hx : s.ev x = some (.imm .nilp)) (hy : s.ev y = some (.imm .nilp)) : OpOK C s o (s.put o.dst (.imm (.bool true))) :=
  OpOK.quiet hd fun γ κ a W hC => by
    have inv : ∀ {z}, s.ev z = some (.imm .nilp) → a.eval z = .pointer none := by
      intro z hz
      have h2 := hC.ev hz
      generalize a.eval z = yv at h2
      cases h2 with
      | imm _ _ h2 => cases h2; rfl
    refine ⟨.bool true, bin_run ho (eqGuard_run (by rw [inv hx, inv hy]) W) ?_, .imm _ _ (.bool _)⟩
    rw [inv hx, inv hy]
    have h3 : (Op.equal ty (.pointer none) (.pointer none)).run C.P W = .ok true W := run_equalIn_pointer_nil (P := C.P) W 9999 ty none hu
    unfold binOp
    simp only [Sem.run_bind, h3, Result.andThen_ok]
    rfl
theorem LS.ptrnil (hT : TsOK C.P T) (hw : awant l s o = some true) (hd : dok C.nt o.dst = true) {ty t2 : TypeId} {x y : Operand} (ho : o.op = .binOp .eql ty x y t2) (hu : C.P.underlying ty = some (.pointer (C.P.pointee ty))) {id ver row off : Nat} (hx : s.ev x = some (.ptr id ver row off)) {b : Blk} (hb : nth s.hp id = some b) (hv : ver = b.rows.length) (hy : s.ev y = some (.imm .nilp)) : LS C l s o (mkFx l s o (.val (.imm (.bool false))) []) :=
  LS.quiet [] hw fun s' hl => by
    have hx' := (hl.ev x (by rw [ho]; simp [Op.operands])).trans hx
    have hy' := (hl.ev y (by rw [ho]; simp [Op.operands])).trans hy
    have hb' := (hl.hp x (by rw [ho]; simp [Op.operands]) _ hx id (by simp [refs])).trans hb
    refine OpOK.ptrnil hT hd ho hu hx' ?_ hy'
    unfold isOwn
    simp only [hb', len_eq, hv]
    simp
/-- An entry of a map that stays, and whether there is one. -/
theorem OpOK.lookOk {α : Type} {kv : α → Value} {kf : α → List IV} {t k e : TypeId} (K : KeyT C.P k kv kf) (ht : C.P.underlying t = some (.map k e)) {z : Value} (hz : ∀ w, (zeroValue e).run C.P w = .ok z w) (hd : dok C.nt o.dst = true) {m x : Operand} (ho : o.op = .lookup t m x true) {mv : AV} (hm : s.ev m = some mv) {xs : List α} {vs : List (List IV)} (hmv : mapOf mv = some (xs.map kf, vs)) {q : α} (hx : s.ev x = some (pkA (kf q)))
    {i : Nat} (hi : xs[i]? = some q) (hfst : ∀ j : Nat, j < i → xs[j]? ≠ some q) {v : List IV} (hv : vs[i]? = some v) : OpOK C s o (s.put o.dst (.tup [pkA v, .imm (.bool true)])) :=
  OpOK.quiet hd fun γ κ a W hC => by
    obtain ⟨g, e1, h0, es, xss, yss, h1, h2, h3, h4, h5, h6⟩ := mapOf_inv (hC.ev hm) hmv
    obtain ⟨ys, k1, k2⟩ := pkA_inv (hC.ev hx)
    rw [K.rep k1] at k2
    obtain ⟨y, y1, y2⟩ := h6.get hv
    obtain ⟨en, n1, n2⟩ : ∃ en, es.toList[i]? = some en ∧ en.val = pkv y := by
      have := congrArg (fun l => l[i]?) h3
      simp only [List.getElem?_map, y1, Option.map_some] at this
      cases hen : es.toList[i]? with
      | none => rw [hen] at this; cases this
      | some en => rw [hen] at this; exact ⟨en, rfl, Option.some.inj this⟩
    refine ⟨.tuple #[pkv y, .bool true], ?_, ?_⟩
    · unfold execOp; rw [ho]
      simp only [e1, k2]
      refine val_run ?_
      rw [lookup_run ht (W := W) h1 (fun b => K.check b q W) (K.hit q W es.toList xs i en (h2.trans (K.keys h5)) hi n1 hfst) (hz W) true]
      simp only [n2]
      rfl
    · exact .tup _ [_, _] (.cons (pkA_rep y2) (.cons (.imm _ _ (.bool _)) .nil))
theorem OpOK.lookNo {α : Type} {kv : α → Value} {kf : α → List IV} {t k e : TypeId} (K : KeyT C.P k kv kf) (ht : C.P.underlying t = some (.map k e)) {z : Value} (hz : ∀ w, (zeroValue e).run C.P w = .ok z w) {zv : AV} (hzv : ∀ M : Mm, RepA M zv z) (hd : dok C.nt o.dst = true) {m x : Operand} (ho : o.op = .lookup t m x true) {mv : AV} (hm : s.ev m = some mv) {xs : List α} {vs : List (List IV)} (hmv : mapOf mv = some (xs.map kf, vs)) {q : α} (hx : s.ev x = some (pkA (kf q)))
    (hq : q ∉ xs) : OpOK C s o (s.put o.dst (.tup [zv, .imm (.bool false)])) :=
  OpOK.quiet hd fun γ κ a W hC => by
    obtain ⟨g, e1, h0, es, xss, yss, h1, h2, h3, h4, h5, h6⟩ := mapOf_inv (hC.ev hm) hmv
    obtain ⟨ys, k1, k2⟩ := pkA_inv (hC.ev hx)
    rw [K.rep k1] at k2
    refine ⟨.tuple #[z, .bool false], ?_, ?_⟩
    · unfold execOp; rw [ho]
      simp only [e1, k2]
      refine val_run ?_
      rw [lookup_run ht (W := W) h1 (fun b => K.check b q W) (K.miss q W es.toList xs (h2.trans (K.keys h5)) hq) (hz W) true]
      rfl
    · exact .tup _ [_, _] (.cons (hzv _) (.cons (.imm _ _ (.bool _)) .nil))
theorem LS.of_quiet {v : AV} (hw : awant l s o = some true) (h : ∀ s', Loc l s s' o [] → OpOK C s' o (s'.put o.dst v)) : LS C l s o (mkFx l s o (.val v) []) := LS.quiet [] hw h
theorem LS.lookOk {α : Type} {kv : α → Value} {kf : α → List IV} {t k e : TypeId} (K : KeyT C.P k kv kf) (ht : C.P.underlying t = some (.map k e)) {z : Value} (hz : ∀ w, (zeroValue e).run C.P w = .ok z w) (hw : awant l s o = some true) (hd : dok C.nt o.dst = true) {m x : Operand} (ho : o.op = .lookup t m x true) {mv : AV} (hm : s.ev m = some mv) {xs : List α} {vs : List (List IV)} (hmv : mapOf mv = some (xs.map kf, vs)) {q : α} (hx : s.ev x = some (pkA (kf q)))
    {i : Nat} (hi : xs[i]? = some q) (hfst : ∀ j : Nat, j < i → xs[j]? ≠ some q) {v : List IV} (hv : vs[i]? = some v) : LS C l s o (mkFx l s o (.val (.tup [pkA v, .imm (.bool true)])) []) :=
  LS.quiet [] hw fun s' hl => OpOK.lookOk K ht hz hd ho ((hl.ev m (by rw [ho]; simp [Op.operands])).trans hm) hmv ((hl.ev x (by rw [ho]; simp [Op.operands])).trans hx) hi hfst hv
theorem LS.load_own (hT : TsOK C.P T) (hw : awant l s o = some true) (hd : dok C.nt o.dst = true) {t : TypeId} {p : Operand} (ho : o.op = .load t p) {i : TI} (hi : look T t = some i) {id ver row off : Nat} (hp : s.ev p = some (.ptr id ver row off))
    {b : Blk} (hb : nth s.hp id = some b) (hver : ver = b.rows.length) {r : List AV} (hr : b.rows[row]? = some r) {v : AV} (hl : ldRow i b.sz r off = some v) : LS C l s o (mkFx l s o (.val v) []) :=
  LS.quiet [] hw fun s' hl' => OpOK.load_own hT hd ho hi ((hl'.ev p (by rw [ho]; simp [Op.operands])).trans hp) ((hl'.hp p (by rw [ho]; simp [Op.operands]) _ hp id (by simp [refs])).trans hb) hver hr hl
theorem LS.len_os (hT : TsOK C.P T) (hw : awant l s o = some true) (hd : dok C.nt o.dst = true) {x : Operand} {t : TypeId} (ho : o.op = .call ⟨.builtin .len, #[x], #[t]⟩) {i : TI} (hi : look T t = some i) {e : TypeId} (hk : i.kd = .sl e) {id n : Nat} (hx : s.ev x = some (.os id n)) {b : Blk} (hb : nth s.hp id = some b) (hver : n = b.rows.length) : LS C l s o (mkFx l s o (.val (.imm (.int .i64 n))) []) :=
  LS.quiet [] hw fun s' hl => OpOK.len_os hT hd ho hi hk ((hl.ev x (by rw [ho]; simp [Op.operands, Call.operands])).trans hx) ((hl.hp x (by rw [ho]; simp [Op.operands, Call.operands]) _ hx id (by simp [refs])).trans hb) hver
end
end Go.Proofs.YteijifoobaoclaaGreat.A
