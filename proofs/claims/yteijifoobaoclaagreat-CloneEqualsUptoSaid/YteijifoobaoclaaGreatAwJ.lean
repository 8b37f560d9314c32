/- The abstract walk, part J: operations with conditions (index, cut, append, make), guards, calls by contract, the beginning and the end of a function. -/
import Derived.Test.YteijifoobaoclaaGreatAwI
import Derived.Laws.MakeOwn
namespace Go.Proofs.YteijifoobaoclaaGreat.A
open Go.RowKit
set_option linter.unusedVariables false
set_option linter.unusedSimpArgs false
section
variable {C : Cx} {s : St} {γ : Nat → Option Nat} {κ : Nat → Nat} {a : Act} {W : World} {o : Oper} {T : List (Nat × TI)}
theorem indexAt_run {P : Program} {t e : TypeId} {ie : TI} (ht : P.underlying t = some (.slice e)) (hTe : TOk P e ie) (ad : Addr) (n c : Nat) (k : IntKind) (j : Int) (h0 : 0 ≤ j) (h1 : j < n) (w : World) :
    (Instr.indexAt t (.slice (some ad) n c) (.int k j)).run P w = .ok (.pointer (some (ad.add (j.toNat * ie.sz)))) w := by
  have d0 : (decide (0 ≤ j) && decide (j < (n : Int))) = true := by simp [h0, h1]
  have hsz := hTe.sizeOf w
  unfold Instr.indexAt
  rw [run_bind (show (asIntOf (.int k j)).run P w = .ok (k, j) w from rfl)]
  have hu := und_run ht w
  go_simp
  done
theorem OpOK.index_imm (hT : TsOK C.P T) (hd : dok C.nt o.dst = true) {t e : TypeId} {x y : Operand} (ho : o.op = .indexAddr t x y) {i ie : TI} (hi : look T t = some i) (hk : i.kd = .sl e) (hie : look T e = some ie) {rows : List (List IV)} {k : IntKind} {j : Int} (hx : s.ev x = some (.imm (.sl rows))) (hy : s.ev y = some (.imm (.int k j)))
    (h0 : 0 ≤ j) {r : List IV} (hr : rows[j.toNat]? = some r) (hl : r.length = ie.sz) (hpos : 0 < ie.sz) : OpOK C s o (s.put o.dst (.pin r)) :=
  OpOK.quiet hd fun γ κ a W hC => by
    obtain ⟨d, d1, d2, _⟩ := (hT t i hi).und
    rw [hk] at d2
    obtain rfl := kd_sl d2
    have hjl : j.toNat < rows.length := (List.getElem?_eq_some_iff.1 hr).1
    have h1 := hC.ev hx
    have h2 := hC.ev hy
    cases h2 with
    | imm _ _ h2 =>
      have e2 := h2.int_inv
      cases h1 with
      | imm _ _ h1 =>
        generalize hxe : a.eval x = xv at h1
        cases h1 with
        | nil A c => simp at hr
        | sl _ ad n c sz ys g0 hsz hn hc hb hrl hyc hrep =>
          have esz : sz = ie.sz := by rw [← hl]; exact (hrl r (List.mem_of_getElem? hr)).symm
          subst esz
          refine ⟨.pointer (some (ad.add (j.toNat * ie.sz))), ?_, ?_⟩
          · unfold execOp; rw [ho]
            simp only [hxe, e2]
            exact val_run (indexAt_run d1 (hT e ie hie) ad n c k j h0 (by omega) W)
          · refine .pin r (ad.add (j.toNat * ie.sz)) ((ys.drop (j.toNat * ie.sz)).take ie.sz) (by intro e; rw [e] at hl; simp at hl; omega) (by rw [add_block]; exact hb) ?_ ?_
            · intro i y hy
              rw [List.getElem?_take] at hy
              split at hy
              · exact hyc.drop _ i y hy
              · cases hy
            · have := (hrep.drop (j.toNat * ie.sz)).take ie.sz
              rw [flat_row hrl hr] at this
              exact this
def atI {α : Type} [Inhabited α] (xs : List α) (j : Int) : α := xs.getD j.toNat default
theorem atI_get {α : Type} [Inhabited α] {xs : List α} {j : Int} (h0 : 0 ≤ j) (h1 : j < xs.length) : xs[j.toNat]? = some (atI xs j) := by
  unfold atI
  rw [List.getD_eq_getElem?_getD, List.getElem?_eq_getElem (by omega)]
  rfl
theorem OpOK.index_map (hT : TsOK C.P T) (hd : dok C.nt o.dst = true) {t e : TypeId} {x y : Operand} (ho : o.op = .indexAddr t x y) {i ie : TI} (hi : look T t = some i) (hk : i.kd = .sl e) (hie : look T e = some ie) {α : Type} [Inhabited α] {f : α → List IV} {xs : List α} {k : IntKind} {j : Int} (hx : s.ev x = some (.imm (.sl (xs.map f)))) (hy : s.ev y = some (.imm (.int k j)))
    (hl : ∀ q, (f q).length = ie.sz) (hpos : 0 < ie.sz) (h0 : 0 ≤ j) (h1 : j < xs.length) : OpOK C s o (s.put o.dst (.pin (f (atI xs j)))) :=
  OpOK.index_imm hT hd ho hi hk hie hx hy h0 (by rw [List.getElem?_map, atI_get h0 h1]; rfl) (hl _) hpos
theorem OpOK.index_own (hT : TsOK C.P T) (hd : dok C.nt o.dst = true) {t e : TypeId} {x y : Operand} (ho : o.op = .indexAddr t x y) {i ie : TI} (hi : look T t = some i) (hk : i.kd = .sl e) (hie : look T e = some ie) {id n : Nat} {k : IntKind} {j : Int} (hx : s.ev x = some (.os id n)) (hy : s.ev y = some (.imm (.int k j)))
    {b : Blk} (hb : nth s.hp id = some b) (hver : n = b.rows.length) (hsz : b.sz = ie.sz) (h0 : 0 ≤ j) (h1 : j < n) : OpOK C s o (s.put o.dst (.ptr id n j.toNat 0)) :=
  OpOK.quiet hd fun γ κ a W hC => by
    rw [nth_eq] at hb
    obtain ⟨d, d1, d2, _⟩ := (hT t i hi).und
    rw [hk] at d2
    obtain rfl := kd_sl d2
    have h2 := hC.ev hy
    have hxv := (hC.ev hx).os_val hb hver
    cases h2 with
    | imm _ _ h2 =>
      have e2 := h2.int_inv
      rcases (hC.blk id b hb).mem with ⟨g1, g2, g3⟩ | ⟨g, ys, sp, g1, g2, _⟩
      · rw [g2] at hver; simp at hver; omega
      · have g1' : γ id = some g := g1
        have hxv' : a.eval x = .slice (some ⟨g, 0, none⟩) n (κ id) := by
          rw [hxv]
          show Value.slice ((γ id).map _) n (κ id) = _
          rw [g1']; rfl
        refine ⟨.pointer (some ⟨g, j.toNat * b.sz + 0, none⟩), ?_, .ptr id n j.toNat 0 b _ hb (Nat.le_of_eq hver) fun _ => ⟨g, g1, rfl⟩⟩
        unfold execOp; rw [ho]
        simp only [hxv', e2]
        have := val_run (indexAt_run d1 (hT e ie hie) ⟨g, 0, none⟩ n (κ id) k j h0 (by omega) W)
        have e3 : (⟨g, 0, none⟩ : Addr).add (j.toNat * ie.sz) = ⟨g, j.toNat * b.sz + 0, none⟩ := by rw [hsz]; unfold Addr.add; split <;> simp_all
        rw [e3] at this
        exact this
-- cuts
def bnd (s : St) (x : Option Operand) (d : Int) : Option Int :=
  match x with
  | none => some d
  | some x => (match s.ev x with
    | some (.imm (.int _ n)) => some n
    | _ => none)
theorem bnd_run (hC : Conc C s γ κ a W) {x : Option Operand} {d j : Int} (h : bnd s x d = some j) : (x = none ∧ j = d) ∨ ∃ k y, x = some y ∧ a.eval y = .int k j := by
  unfold bnd at h
  split at h
  · exact .inl ⟨rfl, (Option.some.inj h).symm⟩
  · rename_i y
    split at h
    · rename_i k n hy
      obtain rfl := Option.some.inj h
      have h1 := hC.ev hy
      cases h1 with
      | imm _ _ h1 => exact .inr ⟨k, y, rfl, h1.int_inv⟩
    · cases h
theorem bounds_run {P : Program} (hC : Conc C s γ κ a W) {lo hi : Option Operand} {n c : Nat} {l h : Int} (hl : bnd s lo 0 = some l) (hh : bnd s hi n = some h) (h0 : 0 ≤ l) (h1 : l ≤ h) (h2 : h ≤ c) (hnc : n ≤ c) (w : World) :
    (Instr.sliceBounds true n c (lo.map a.eval) (hi.map a.eval) none).run P w = .ok (l.toNat, h.toNat, c) w := by
  have sb : ∀ (k : IntKind) (i : Int) (y : Nat) (code : BoundsCode), 0 ≤ i → i ≤ y → (Instr.sliceBound (.int k i) y code).run P w = .ok i.toNat w := by
    intro k i y code g0 g1
    unfold Instr.sliceBound
    simp [asIntOf, g0, g1, bind, Sem.bind, pure, Sem.run]
  unfold Instr.sliceBounds
  rcases bnd_run hC hl with ⟨rfl, rfl⟩ | ⟨k, y, rfl, hy⟩ <;> rcases bnd_run hC hh with ⟨rfl, rfl⟩ | ⟨k2, y2, rfl, hy2⟩
  · simp [bind, Sem.bind, pure, Sem.run]
  · have := sb k2 h c .sliceAcap (by omega) (by omega)
    simp only [Option.map_none, Option.map_some, hy2]
    show ((Instr.sliceBound (.int k2 h) c .sliceAcap) >>= fun h => pure (0, h, c)).run P w = _
    rw [run_bind this]; rfl
  · have := sb k l n .sliceB h0 (by omega)
    simp only [Option.map_none, Option.map_some, hy]
    show ((Instr.sliceBound (.int k l) n .sliceB) >>= fun l => pure (l, n, c)).run P w = _
    rw [run_bind this]; simp
  · have e1 := sb k2 h c .sliceAcap (by omega) (by omega)
    have e2 := sb k l h.toNat .sliceB h0 (by omega)
    simp only [Option.map_some, hy, hy2]
    show ((Instr.sliceBound (.int k2 h) c .sliceAcap) >>= fun h => (Instr.sliceBound (.int k l) h .sliceB) >>= fun l => pure (l, h, c)).run P w = _
    rw [run_bind e1, run_bind e2]; rfl
theorem OpOK.cut (hT : TsOK C.P T) (hd : dok C.nt o.dst = true) {t e : TypeId} {x : Operand} {lo hi : Option Operand} (ho : o.op = .slice t x lo hi none) {i ie : TI} (hi1 : look T t = some i) (hk : i.kd = .sl e) (hie : look T e = some ie) {rows : List (List IV)} (hx : s.ev x = some (.imm (.sl rows)))
    {l h : Int} (hl : bnd s lo 0 = some l) (hh : bnd s hi rows.length = some h) (hsz : ∀ r ∈ rows, r.length = ie.sz) (h0 : 0 ≤ l) (h1 : l ≤ h) (h2 : h ≤ rows.length) : OpOK C s o (s.put o.dst (.imm (.sl ((rows.take h.toNat).drop l.toNat)))) :=
  OpOK.quiet hd fun γ κ a W hC => by
    obtain ⟨d, d1, d2, _⟩ := (hT t i hi1).und
    rw [hk] at d2
    obtain rfl := kd_sl d2
    have h1x := hC.ev hx
    cases h1x with
    | imm _ _ h1x =>
      obtain ⟨A, c, hxe, hc⟩ := h1x.sl_inv
      have hb := bounds_run (P := C.P) hC hl hh h0 h1 (show h ≤ (c : Int) by omega) hc W
      have hs := (hT e ie hie).sizeOf W
      refine ⟨.slice (if c = l.toNat then A else A.map (·.add (l.toNat * ie.sz))) (h.toNat - l.toNat) (c - l.toNat), ?_, .imm _ _ ?_⟩
      · unfold execOp; rw [ho]
        simp only [hxe]
        refine val_run ?_
        unfold Instr.sliceAt
        rw [run_bind (und_run d1 W)]
        simp only
        unfold Instr.slice
        rw [run_bind (und_run d1 W)]
        simp only
        simp only [Option.map_none]
        rw [run_bind hb]
        simp only
        rw [run_bind hs]
        rfl
      · have hlen : ((rows.take h.toNat).drop l.toNat).length = h.toNat - l.toNat := by simp; omega
        by_cases he : h.toNat - l.toNat = 0
        · have : (rows.take h.toNat).drop l.toNat = [] := List.length_eq_zero_iff.1 (by omega)
          rw [this, he]
          exact .nil _ _
        · rw [hxe] at h1x
          cases h1x with
          | nil A c => simp at h2; omega
          | sl _ ad n c sz ys g0 gsz hn hc2 hbk hrl hyc hrep =>
            have esz : sz = ie.sz := by
              cases rows with
              | nil => exact absurd rfl g0
              | cons r l => rw [← hrl r (by simp)]; exact hsz r (by simp)
            subst esz
            rw [if_neg (by omega)]
            refine .sl _ (ad.add (l.toNat * ie.sz)) _ _ ie.sz (((ys.take (h.toNat * ie.sz))).drop (l.toNat * ie.sz)) (by intro e; rw [e] at hlen; simp at hlen; omega) gsz hlen.symm (by omega) (by rw [add_block]; exact hbk) (fun r hr => hrl r (List.mem_of_mem_take (List.mem_of_mem_drop hr))) ?_ ?_
            · have : CellsAt W ad (ys.take (h.toNat * ie.sz)) := by
                intro i y hy
                rw [List.getElem?_take] at hy
                split at hy
                · exact hyc i y hy
                · cases hy
              exact this.drop _
            · have key : ∀ (q : List (List IV)) (hq : ∀ r ∈ q, r.length = ie.sz) (m : Nat), (q.take m).flatten = q.flatten.take (m * ie.sz) ∧ (q.drop m).flatten = q.flatten.drop (m * ie.sz) := by
                intro q
                induction q with
                | nil => intro hq m; simp
                | cons r q ih =>
                  intro hq m
                  have hr := hq r (by simp)
                  cases m with
                  | zero => simp
                  | succ m =>
                    obtain ⟨k1, k2⟩ := ih (fun r h => hq r (by simp [h])) m
                    have e : (m + 1) * ie.sz = r.length + m * ie.sz := by rw [Nat.succ_mul, hr]; omega
                    constructor
                    · simp only [List.take_succ_cons, List.flatten_cons, k1]
                      rw [e, List.take_length_add_append]
                    · simp only [List.drop_succ_cons, List.flatten_cons, k2]
                      rw [e, ← List.drop_drop, List.drop_left]
              rw [(key _ (fun r h => hrl r (List.mem_of_mem_take h)) _).2, (key _ hrl _).1]
              exact (hrep.take _).drop _
theorem OpOK.cut_map (hT : TsOK C.P T) (hd : dok C.nt o.dst = true) {t e : TypeId} {x : Operand} {lo hi : Option Operand} (ho : o.op = .slice t x lo hi none) {i ie : TI} (hi1 : look T t = some i) (hk : i.kd = .sl e) (hie : look T e = some ie) {α : Type} {f : α → List IV} {xs : List α} (hx : s.ev x = some (.imm (.sl (xs.map f))))
    {l h : Int} (hl : bnd s lo 0 = some l) (hh : bnd s hi xs.length = some h) (hsz : ∀ q, (f q).length = ie.sz) (h0 : 0 ≤ l) (h1 : l ≤ h) (h2 : h ≤ xs.length) : OpOK C s o (s.put o.dst (.imm (.sl (((xs.take h.toNat).drop l.toNat).map f)))) := by
  have := OpOK.cut hT hd ho hi1 hk hie hx hl (by rw [List.length_map]; exact hh) (fun r hr => by obtain ⟨q, _, rfl⟩ := List.mem_map.1 hr; exact hsz q) h0 h1 (by rw [List.length_map]; exact h2)
  rwa [← List.map_take, ← List.map_drop] at this
-- guards
def dstOf (l : List Oper) (j : Nat) : Option Nat :=
  match nth l j with
  | some o => o.dst
  | none => none
def awant (l : List Oper) (s : St) (o : Oper) : Option Bool :=
  match o.guard with
  | none => some true
  | some (j, want) => match dstOf l j with
    | none => some false
    | some d => match get s.env d with
      | some (.imm (.bool b)) => some (b == want)
      | some .undef => some false
      | _ => none
theorem awant_ok (hC : Conc C s γ κ a W) {l : List Oper} {b : Bool} (h : awant l s o = some b) : Region.wanted o (yielded l.toArray a.tmps) = b := by
  unfold awant at h
  unfold Region.wanted
  split at h
  · rename_i hg
    rw [hg]
    exact Option.some.inj h
  · rename_i j want hg
    rw [hg]
    simp only
    unfold yielded
    rw [List.getElem?_toArray]
    unfold dstOf at h
    rw [nth_eq] at h
    split at h
    · rename_i hd
      cases hj : l[j]? with
      | none => simp; exact (Option.some.inj h).symm
      | some q =>
        rw [hj] at hd
        simp only at hd
        simp [hd]
        exact (Option.some.inj h).symm
    · rename_i d hd
      cases hj : l[j]? with
      | none => rw [hj] at hd; cases hd
      | some q =>
        rw [hj] at hd
        simp only at hd
        simp only [Option.bind_some, hd]
        split at h
        · rename_i b' hb
          obtain ⟨x, h1, h2⟩ := hC.env d _ hb
          cases h2 with
          | imm _ _ h2 =>
            have := h2.bool_inv
            subst this
            rw [h1]
            simp only
            rw [← Option.some.inj h]
            cases b' <;> cases want <;> rfl
        · rename_i hb
          obtain ⟨x, h1, h2⟩ := hC.env d _ hb
          cases h2
          rw [h1]
          rw [← Option.some.inj h]
          simp [undef]
        · cases h
variable {l rest : List Oper} {Q : Exit → St → Prop}
theorem AL.op {s1 : St} (hw : awant l s o = some true) (h : OpOK C s o s1) (k : AL C l Q rest s1) : AL C l Q (o :: rest) s := by
  intro γ κ a W hC
  refine wpList_step fun K hK => ?_
  rw [if_pos (awant_ok hC hw)]
  exact h γ κ a W hC K _ fun γ' κ' a' W' hC' => hK _ _ (k γ' κ' a' W' hC')
theorem AL.skip (hw : awant l s o = some false) (hd : dok C.nt o.dst = true) (k : AL C l Q rest (s.put o.dst .undef)) : AL C l Q (o :: rest) s := by
  intro γ κ a W hC
  refine wpList_step fun K hK => ?_
  rw [if_neg (by rw [awant_ok hC hw]; simp)]
  exact hK _ _ (k γ κ _ _ (hC.put hd .undef))
theorem Conc.sub_env {s1 : St} (hC : Conc C s γ κ a W) (hhp : s1.hp = s.hp) (h : ∀ t v, get s1.env t = some v → ∃ x, a.tmps[t]? = some x ∧ RepA (s.mm C γ κ W) v x) : Conc C s1 γ κ a W := by
  obtain ⟨e1, h1⟩ := s1
  simp only at hhp
  subst hhp
  exact ⟨hC.size, hC.defers, h, hC.blk, hC.inj, hC.own, hC.xlt, hC.old, hC.hos, hC.htape, hC.hout, hC.hsize, hC.lent⟩
/-- A slot's bool, known now. -/
theorem AL.split (d : Nat) {b : Bool} (hb : get s.env d = some (.imm (.bool b))) (h1 : b = true → AL C l Q rest ⟨(d, .imm (.bool true)) :: s.env, s.hp⟩) (h2 : b = false → AL C l Q rest ⟨(d, .imm (.bool false)) :: s.env, s.hp⟩) : AL C l Q rest s := by
  intro γ κ a W hC
  have key : ∀ c : Bool, b = c → Conc C ⟨(d, .imm (.bool c)) :: s.env, s.hp⟩ γ κ a W := by
    intro c e
    subst e
    refine hC.sub_env rfl fun t v h => ?_
    simp only [get] at h
    split at h
    · rename_i e
      have e := Nat.eq_of_beq_eq_true e
      subst e
      obtain rfl := Option.some.inj h
      exact hC.env _ _ hb
    · exact hC.env t v h
  cases hbb : b with
  | true => exact h1 hbb γ κ a W (key true hbb)
  | false => exact h2 hbb γ κ a W (key false hbb)
/-- A guard's bool. -/
theorem AL.gsplit {j d : Nat} {want b : Bool} (hg : o.guard = some (j, want)) (hd : dstOf l j = some d) (hb : get s.env d = some (.imm (.bool b))) (h1 : b = true → AL C l Q (o :: rest) ⟨(d, .imm (.bool true)) :: s.env, s.hp⟩) (h2 : b = false → AL C l Q (o :: rest) ⟨(d, .imm (.bool false)) :: s.env, s.hp⟩) : AL C l Q (o :: rest) s := AL.split d hb h1 h2
theorem AW.condT {c : Operand} {x y : Code} (hc : s.ev c = some (.imm (.bool true))) (h : AW C x Q s) : AW C (.cond c x y) Q s := AW.cond hc (fun _ => h) (fun e => by cases e)
theorem AW.condF {c : Operand} {x y : Code} (hc : s.ev c = some (.imm (.bool false))) (h : AW C y Q s) : AW C (.cond c x y) Q s := AW.cond hc (fun e => by cases e) (fun _ => h)
end
end Go.Proofs.YteijifoobaoclaaGreat.A
