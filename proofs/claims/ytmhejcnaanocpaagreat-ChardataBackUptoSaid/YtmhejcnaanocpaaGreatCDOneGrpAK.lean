/- The abstract walk, part Zc: lists of lists that become values; more of own lists. -/
import Derived.Test.YtmhejcnaanocpaaGreatCDOneGrpAJ
namespace Go.Proofs.YtmhejcnaanocpaaGreat.A
open Go.RowKit
set_option linter.unusedVariables false
set_option linter.unusedSimpArgs false
section
variable {C : Cx} {s t : St} {γ : Nat → Option Nat} {κ : Nat → Nat} {a : Act} {W : World} {o : Oper} {T : List (Nat × TI)} {l r rest : List Oper} {Q : Exit → St → Prop}
def FzI (C : Cx) (s : St) (c : AV) (v : IV) : Prop := ∀ γ κ a W x, Conc C s γ κ a W → RepA (s.mm C γ κ W) c x → RepI W C.X v x
theorem FzI.imm (v : IV) : FzI C s (.imm v) v := fun γ κ a W x hC h => by
  cases h with
  | imm _ _ h => exact h.keep fun b hb _ => ⟨rfl, fun hx => hb (.inl hx)⟩
theorem FzI.of {c : AV} {v : IV} (h : Fz C s c (.imm v)) : FzI C s c v := fun γ κ a W x hC hx => by
  have := h γ κ a W x hC hx
  cases this with
  | imm _ _ h => exact h
theorem Fz.osN {id n : Nat} {b : Blk} (hb : nth s.hp id = some b) (hver : n = b.rows.length) {rows : List (List IV)} (hlen : b.rows.length = rows.length) (hrl : ∀ r ∈ rows, r.length = b.sz) (hr : All2 (FzI C s) b.rows.flatten rows.flatten) : Fz C s (.os id n) (.imm (.sl rows)) := by
  intro γ κ a W x hC hx
  rw [nth_eq] at hb
  have hB := hC.blk id b hb
  have e := hx.os_val hb hver
  subst e
  rcases hB.mem with ⟨h1, h2, h3⟩ | ⟨g, ys, sp, h1, h2, h3, h4⟩
  · have : rows = [] := by
      rw [h2] at hlen
      exact List.length_eq_zero_iff.1 hlen.symm
    subst this
    have hn0 : n = 0 := by rw [hver, h2]; rfl
    subst hn0
    exact .imm _ _ (.nil _ _)
  · by_cases hne : rows = []
    · subst hne
      have hn0 : n = 0 := by rw [hver, hlen]; rfl
      subst hn0
      exact .imm _ _ (.nil _ _)
    · rw [h1]
      refine .imm _ _ (.sl rows ⟨g, 0, none⟩ n _ b.sz ys hne hB.pos (by rw [hver, hlen]) (by rw [hver]; exact hB.cap) ?_ hrl ?_ ?_)
      · have hid : id < s.hp.length := (List.getElem?_eq_some_iff.1 hb).1
        exact (hC.own id g hid h1).1
      · intro j y hj
        have e : (⟨g, 0, none⟩ : Addr).add j = ⟨g, 0 + j, none⟩ := by unfold Addr.add; split <;> simp_all
        have h2' : W.heap[g]? = some (.cells (ys ++ sp).toArray b.ty (0, 0)) := h2
        show W.cell? _ = _
        rw [e, blk_cell h2']
        simp only [List.getElem?_toArray, Nat.zero_add]
        rw [List.getElem?_append_left (List.getElem?_eq_some_iff.1 hj).1]; exact hj
      · have key : ∀ {l : List AV} {m : List IV} (_ : All2 (FzI C s) l m) {ys : List Value}, All2 (RepA (s.mm C γ κ W)) l ys → All2 (RepI W C.X) m ys := by
          intro l m h
          induction h with
          | nil => intro ys h; cases h; exact .nil
          | cons h1 _ ih =>
            intro ys h
            cases h with
            | cons h2 h3 => exact .cons (h1 _ _ _ _ _ hC h2) (ih h3)
        exact key hr h4
theorem all2_flat {α β : Type} {R : α → β → Prop} {l : List (List α)} {m : List (List β)} (h : All2 (All2 R) l m) : All2 R l.flatten m.flatten := by
  induction h with
  | nil => exact .nil
  | cons h1 _ ih => exact h1.append ih
theorem all2_map_both {α β γ : Type} {R : β → γ → Prop} {f : α → β} {g : α → γ} (h : ∀ x, R (f x) (g x)) : ∀ l : List α, All2 R (l.map f) (l.map g)
  | [] => .nil
  | x :: l => .cons (h x) (all2_map_both h l)
/-- s[n:] of a list of n elements. -/
theorem OpOK.cutEnd (hT : TsOK C.P T) (hd : dok C.nt o.dst = true) {t e : TypeId} {x : Operand} {lo hi : Option Operand} (ho : o.op = .slice t x lo hi none) {i ie : TI} (hi1 : look T t = some i) (hk : i.kd = .sl e) (hie : look T e = some ie) {n : Nat}
    (hx : ∀ γ κ a W, Conc C s γ κ a W → ∃ A c, a.eval x = .slice A n c ∧ n ≤ c) (hl : bnd s lo 0 = some (n : Int)) (hh : bnd s hi n = some (n : Int)) : OpOK C s o (s.put o.dst (.imm (.sl []))) :=
  OpOK.quiet hd fun γ κ a W hC => by
    obtain ⟨d, d1, d2, _⟩ := (hT t i hi1).und
    rw [hk] at d2
    obtain rfl := kd_sl d2
    obtain ⟨A, c, hxe, hc⟩ := hx γ κ a W hC
    have hb := bounds_run (P := C.P) hC hl hh (by omega) (Int.le_refl _) (show (n : Int) ≤ (c : Int) by omega) hc W
    have hs := (hT e ie hie).sizeOf W
    simp only [Int.toNat_natCast] at hb
    refine ⟨.slice (if c = n then A else A.map (·.add (n * ie.sz))) (n - n) (c - n), ?_, .imm _ _ ?_⟩
    · unfold execOp; rw [ho]
      simp only [hxe]
      refine val_run ?_
      unfold Instr.sliceAt
      rw [run_bind (und_run d1 W)]
      simp only
      unfold Instr.slice
      rw [run_bind (und_run d1 W)]
      simp only
      simp only [Option.map_none]
      rw [run_bind hb]
      simp only
      rw [run_bind hs]
      rfl
    · rw [Nat.sub_self]
      exact .nil _ _
theorem os_sl {x : Operand} {id n : Nat} {b : Blk} (hx : s.ev x = some (.os id n)) (hb : nth s.hp id = some b) (hv : n = b.rows.length) : ∀ γ κ a W, Conc C s γ κ a W → ∃ A c, a.eval x = .slice A n c ∧ n ≤ c := by
  intro γ κ a W hC
  rw [nth_eq] at hb
  exact ⟨_, _, (hC.ev hx).os_val hb hv, by rw [hv]; exact (hC.blk id b hb).cap⟩
theorem nocap_sl {x : Operand} (hx : s.ev x = some .nocap) : ∀ γ κ a W, Conc C s γ κ a W → ∃ A c, a.eval x = .slice A 0 c ∧ 0 ≤ c := by
  intro γ κ a W hC
  have h := hC.ev hx
  generalize a.eval x = xv at h
  cases h
  exact ⟨_, _, rfl, Nat.le_refl _⟩
theorem OpOK.len_nocap (hT : TsOK C.P T) (hd : dok C.nt o.dst = true) {x : Operand} {t : TypeId} (ho : o.op = .call ⟨.builtin .len, #[x], #[t]⟩) {i : TI} (hi : look T t = some i) {e : TypeId} (hk : i.kd = .sl e) (hx : s.ev x = some .nocap) : OpOK C s o (s.put o.dst (.imm (.int .i64 0))) :=
  OpOK.quiet hd fun γ κ a W hC => by
    obtain ⟨A, c, hxe, _⟩ := nocap_sl hx γ κ a W hC
    obtain ⟨d, d1, d2, _⟩ := (hT t i hi).und
    rw [hk] at d2
    obtain rfl := kd_sl d2
    refine ⟨.int .i64 0, ?_, .imm _ _ (.int _ _)⟩
    rw [call_builtin ho]
    have key : (Builtin.len_ #[t] o.type #[a.eval x]).run C.P W = .ok (.int .i64 0) W → (builtin .len #[t] o.type ((#[x] : Array Operand).map fun | .const _ => true | _ => false) ((#[x] : Array Operand).map a.eval)).run C.P W = .ok (.value (.int .i64 0)) W := by
      intro h
      simp only [builtin, List.map_toArray, List.map_cons, List.map_nil]
      rw [run_bind h]; rfl
    refine key ?_
    rw [hxe]
    unfold Builtin.len_
    simp only [List.getElem?_toArray, List.getElem?_cons_zero]
    rw [run_bind (und_run d1 W)]
    rfl
theorem LS.len_nocap (hT : TsOK C.P T) (hw : awant l s o = some true) (hd : dok C.nt o.dst = true) {x : Operand} {t : TypeId} (ho : o.op = .call ⟨.builtin .len, #[x], #[t]⟩) {i : TI} (hi : look T t = some i) {e : TypeId} (hk : i.kd = .sl e) (hx : s.ev x = some .nocap) : LS C l s o (mkFx l s o (.val (.imm (.int .i64 0))) []) :=
  LS.quiet [] hw fun s' hl => OpOK.len_nocap hT hd ho hi hk ((hl.ev x (by rw [ho]; simp [Op.operands, Call.operands])).trans hx)
/-- A call in a region that draws: two blocks are lent, the first one is changed. -/
theorem LS.callG2 (p q : Nat) (hw : awant l s o = some true) {fo : Operand} {args : Array Operand} {ats : Array TypeId} (ho : o.op = .call ⟨.value fo, args, ats⟩) (hd : dok C.nt o.dst = true) {f : Nat} (hfo : s.ev fo = some (.imm (.fn f))) {vs : List AV} (hx : evs s args.toList = some vs)
    {b0 c0 b1 : Blk} {asx : List AV} {r : AV} (hc : GenC C.P f [b0, c0] asx r [b1, c0]) (hargs : ∀ n, vs = asx.map (ren (rho [p, q] n))) (hpq : Nat.beq p q = false) {bp cq : Blk} (hp : nth s.hp p = some bp) (hq : nth s.hp q = some cq) (ep : ∀ n, bp = renB (rho [p, q] n) b0) (eq : ∀ n, cq = renB (rho [p, q] n) c0)
    (hs0 : asx.all (AV.sc 2) = true) (hs1 : ([b0, c0].all fun b => b.rows.all fun r => r.all (AV.sc1 2)) = true) (hs2 : r.sc 2 = true) (hs3 : ([b1, c0].all fun b => b.rows.all fun r => r.all (AV.sc1 2)) = true)
    {bA : Blk} (eA : ∀ n, renB (rho [p, q] n) b1 = bA) {r' : AV} (er : ∀ n, ren (rho [p, q] n) r = r') :
    LS C l s o (mkFx l s o (.blk p bA r') [p, q]) :=
  LS.blk [p, q] hw fun s' hl => by
    have hp' := (hl.xb p (by simp)).trans hp
    have hq' := (hl.xb q (by simp)).trans hq
    have h1 : s'.ev fo = some (aFn f []) := (hl.ev fo (call_mem ho).1).trans hfo
    have h2 : evs s' args.toList = some vs := (hl.evs fun x hx => (call_mem ho).2 x hx).trans hx
    have hne : p ≠ q := fun e => by subst e; simp at hpq
    have hnd : nodupB [p, q] = true := by
      simp only [nodupB, memB]
      rw [hpq]
      rfl
    have := OpOK.callG ho hd (s := s') h1 h2 [p, q] hc (by rw [List.append_nil]; exact hargs _) (by simp only [List.map_cons, List.map_nil, hp', hq']; rw [← ep, ← eq]) hnd hs0 hs1 hs2 hs3 (by simp [len])
    simp only [List.map_cons, List.map_nil, eA, er, setAll, len, List.drop_succ_cons, List.drop_zero, List.append_nil] at this
    rw [← eq] at this
    have e3 : (s'.hp.set p bA).set q cq = s'.hp.set p bA := by
      rw [nth_eq] at hq'
      apply List.ext_getElem?
      intro j
      by_cases e : q = j
      · subst e
        rw [List.getElem?_set_self (by rw [List.length_set]; exact (List.getElem?_eq_some_iff.1 hq').1), List.getElem?_set_ne hne, hq']
      · rw [List.getElem?_set_ne e]
    rw [e3] at this
    exact this
theorem isPtr_own {id ver row off : Nat} {b : Blk} (hb : nth s.hp id = some b) (hv : ver = b.rows.length) : isPtr s (.ptr id ver row off) = true := by
  unfold isPtr
  simp only [hb, hv, len_eq]
  simp
theorem LS.nilCheck (hw : awant l s o = some true) (hd : dok C.nt o.dst = true) {x : Operand} (ho : o.op = .nilCheck x) {id ver row off : Nat} (hx : s.ev x = some (.ptr id ver row off)) {b : Blk} (hb : nth s.hp id = some b) (hv : ver = b.rows.length) : LS C l s o (mkFx l s o (.val (.ptr id ver row off)) []) :=
  LS.quiet [] hw fun s' hl => OpOK.nilCheck hd ho ((hl.ev x (by rw [ho]; simp [Op.operands])).trans hx) (isPtr_own ((hl.hp x (by rw [ho]; simp [Op.operands]) _ hx id (by simp [refs])).trans hb) hv)
theorem OpOK.nilCheckO (hd : dok C.nt o.dst = true) {x : Operand} (ho : o.op = .nilCheck x) {id ver row off : Nat} (hx : s.ev x = some (.ptr id ver row off)) {b : Blk} (hb : nth s.hp id = some b) (hv : ver = b.rows.length) : OpOK C s o (s.put o.dst (.ptr id ver row off)) := OpOK.nilCheck hd ho hx (isPtr_own hb hv)
theorem OpOK.fieldAddrO (hT : TsOK C.P T) (hd : dok C.nt o.dst = true) {t : TypeId} {x : Operand} {f : Nat} (ho : o.op = .fieldAddr t x f) {i : TI} (hi : look T t = some i) (ha : i.isAgg = true) {off n : Nat} {g : Bool} (hf : nth i.flds f = some (off, n, g)) (hn : Nat.beq n 0 = false)
    {id ver row o' : Nat} (hx : s.ev x = some (.ptr id ver row o')) {b : Blk} (hb : nth s.hp id = some b) (hver : ver = b.rows.length) : OpOK C s o (s.put o.dst (.ptr id ver row (o' + off))) :=
  OpOK.fieldAddr_own hT hd ho hi ha hf (fun e => by subst e; simp at hn) hx (by rw [← nth_eq]; exact hb) hver
theorem LS.fieldAddr (hT : TsOK C.P T) (hw : awant l s o = some true) (hd : dok C.nt o.dst = true) {t : TypeId} {x : Operand} {f : Nat} (ho : o.op = .fieldAddr t x f) {i : TI} (hi : look T t = some i) (ha : i.isAgg = true) {off n : Nat} {g : Bool} (hf : nth i.flds f = some (off, n, g)) (hn : Nat.beq n 0 = false)
    {id ver row o' : Nat} (hx : s.ev x = some (.ptr id ver row o')) {b : Blk} (hb : nth s.hp id = some b) (hver : ver = b.rows.length) : LS C l s o (mkFx l s o (.val (.ptr id ver row (o' + off))) []) :=
  LS.quiet [] hw fun s' hl => OpOK.fieldAddrO hT hd ho hi ha hf hn ((hl.ev x (by rw [ho]; simp [Op.operands])).trans hx) ((hl.hp x (by rw [ho]; simp [Op.operands]) _ hx id (by simp [refs])).trans hb) hver
end
end Go.Proofs.YtmhejcnaanocpaaGreat.A
namespace Go.Proofs.YtmhejcnaanocpaaGreat.A
set_option linter.unusedVariables false
set_option linter.unusedSimpArgs false
set_option maxRecDepth 100000
theorem take_next {α : Type} [Inhabited α] {l : List α} {i : Int} (h0 : 0 ≤ i) (h1 : i < l.length) : l.take (i + 1).toNat = l.take i.toNat ++ [atI l i] := by
  rw [show (i + 1).toNat = i.toNat + 1 by omega, List.take_succ_eq_append_getElem (by omega)]
  unfold atI
  rw [List.getD_eq_getElem?_getD, List.getElem?_eq_getElem (by omega)]
  rfl
theorem take_end {α : Type} {l : List α} {i : Int} (h : l.length ≤ i) : l.take i.toNat = l := List.take_of_length_le (by omega)
theorem atI_mem {α : Type} [Inhabited α] {l : List α} {i : Int} (h0 : 0 ≤ i) (h1 : i < l.length) : atI l i ∈ l := List.mem_of_getElem? (atI_get h0 h1)
def nodeAt (f : List Node) (h : Int) : Node := if 1 ≤ h ∧ h ≤ f.length then atI f (h - 1) else n0
def inB (f : List Node) (h : Int) : Bool := decide (1 ≤ h ∧ h ≤ f.length)
theorem at_c (f : List Node) (h : Int) (hl : f.length ≤ 1000000000) : PureC Tryz.prog 145 [fav f, iav h] (.tup [(nodeAt f h).av, bav (inB f h)]) := by
  unfold nodeAt inB
  refine PureC.mk tabs Tryz.func145 22 _ rfl rfl rfl rfl rfl ?_
  intro w0 X
  (repeat' (first | ((with_reducible show AL _ _ _ _ _); first | (refine AL.step tabs rfl ?_; try dsimp only [len, List.nil_append, List.cons_append]) | refine AL.nil ?_ | (refine AL.gsplitE rfl rfl rfl (fun hc => ?_) (fun hc => ?_) <;> (fail_if_success (exact absurd hc (by decide))) <;> (try simp only [hsx] at hc) <;> (try first | (exfalso; omega) | contradiction | (exfalso; simp [dec_eq] at hc; done))) | (refine AL.op rfl (OpOK.ari64 rfl rfl rfl rfl rfl (by omega) (by omega)) ?_) | (refine AL.op rfl (OpOK.index_map tabs rfl rfl rfl rfl rfl rfl rfl (fun _ => rfl) (by decide) (by omega) (by omega)) ?_)) | refine AW.seq ?_ | refine AW.region ?_ | refine Then.norm ?_ | refine AW.skip ?_ | refine AW.condT rfl ?_ | refine AW.condF rfl ?_ | (refine AW.cond rfl (fun hc => ?_) (fun hc => ?_) <;> (try simp only [hsx] at hc) <;> (try first | (exfalso; omega) | contradiction | (exfalso; simp [dec_eq] at hc; done))) | refine AW.ret ?_ | refine Then.ret ?_))
  · rw [if_neg (by omega), show decide (1 ≤ h ∧ h ≤ f.length) = false by simp; omega]
    exact RQ.fin rfl rfl rfl
  · rw [if_neg (by omega), show decide (1 ≤ h ∧ h ≤ f.length) = false by simp; omega]
    exact RQ.fin rfl rfl rfl
  · rw [if_pos (by omega), show decide (1 ≤ h ∧ h ≤ f.length) = true by simp; omega]
    exact RQ.fin rfl rfl rfl
theorem kind_c (f : List Node) (h : Int) (hl : f.length ≤ 1000000000) : PureC Tryz.prog 147 [fav f, iav h] (kav (nodeAt f h).kind) := by
  refine PureC.mk tabs Tryz.func147 15 _ rfl rfl rfl rfl rfl ?_
  intro w0 X
  (repeat' (first | ((with_reducible show AL _ _ _ _ _); first | (refine AL.step tabs rfl ?_; try dsimp only [len, List.nil_append, List.cons_append]) | refine AL.op rfl (OpOK.call rfl rfl rfl rfl (at_c _ _ hl) rfl) ?_ | refine AL.nil ?_) | refine AW.seq ?_ | refine AW.region ?_ | refine Then.norm ?_ | refine AW.skip ?_ | refine AW.ret ?_ | refine Then.ret ?_))
  exact RQ.fin rfl rfl rfl
def aboveOf (n : Node) : Int := if n.kind = 12 then n.host else n.parent
theorem above_c (n : Node) : PureC Tryz.prog 140 [n.av] (iav (aboveOf n)) := by
  refine PureC.mk tabs Tryz.func140 10 _ rfl rfl rfl rfl rfl ?_
  intro w0 X
  unfold aboveOf
  (repeat' (first | ((with_reducible show AL _ _ _ _ _); first | (refine AL.step tabs rfl ?_; try dsimp only [len, List.nil_append, List.cons_append]) | refine AL.nil ?_) | refine AW.seq ?_ | refine AW.region ?_ | refine Then.norm ?_ | refine AW.skip ?_ | refine AW.condT rfl ?_ | refine AW.condF rfl ?_ | (refine AW.cond rfl (fun hc => ?_) (fun hc => ?_) <;> (try simp only [hsx] at hc) <;> (try first | (exfalso; omega) | contradiction | (exfalso; simp [dec_eq] at hc; done))) | refine AW.ret ?_ | refine Then.ret ?_))
  · rw [if_pos hc]; exact RQ.fin rfl rfl rfl
  · rw [if_neg hc]; exact RQ.fin rfl rfl rfl
def sr (s : ByteArray) : List IV := [.str s]
def shortB (l : List ByteArray) : Bool := l.all fun s => decide (s.size ≤ 1024)
theorem short_c (l : List ByteArray) (hl : l.length ≤ 1000000000) : PureC Tryz.prog 144 [.imm (.sl (l.map sr))] (bav (shortB l)) := by
  refine PureC.mk tabs Tryz.func144 15 _ rfl rfl rfl rfl rfl ?_
  intro w0 X
  (repeat' (first | ((with_reducible show AL _ _ _ _ _); first | (refine AL.step tabs rfl ?_; try dsimp only [len, List.nil_append, List.cons_append]) | refine AL.nil ?_ | (refine AL.op rfl (OpOK.ari64 rfl rfl rfl rfl rfl (by omega) (by omega)) ?_) | (refine AL.op rfl (OpOK.index_map tabs rfl rfl rfl rfl rfl rfl rfl (fun _ => rfl) (by decide) (by omega) (by omega)) ?_)) | fail | refine AW.seq ?_ | refine AW.region ?_ | refine Then.norm ?_ | refine AW.skip ?_ | refine AW.block ?_ | refine InB.norm ?_ | refine AW.condT rfl ?_ | refine AW.condF rfl ?_ | (refine AW.cond rfl (fun hc => ?_) (fun hc => ?_) <;> (try simp only [hsx] at hc) <;> (try first | (exfalso; omega) | contradiction | (exfalso; simp [dec_eq] at hc; done))) | refine AW.ret ?_ | refine AW.exit ?_ | refine Then.ret ?_ | refine Then.exit ?_ | refine InB.ret ?_ | refine InB.here ?_ | refine InB.off rfl ?_ | refine Rnd.ret ?_ | refine Rnd.exit ?_))
  refine AW.loop (α := Int) (fun i => ⟨[(5, .imm (.sl (l.map sr))), (6, iav (l.map sr).length), (7, iav i)], []⟩) (fun i => 0 ≤ i ∧ i ≤ l.length ∧ shortB (l.take i.toNat) = true) (fun i => (l.length - i).toNat) 0 (Le.cut 0 rfl ⟨rfl, rfl, rfl, trivial⟩ rfl rfl (Nat.zero_le _)) ⟨by omega, by omega, rfl⟩ ?_
  intro i ⟨h0, h1, h2⟩
  (repeat' (first | ((with_reducible show AL _ _ _ _ _); first | (refine AL.step tabs rfl ?_; try dsimp only [len, List.nil_append, List.cons_append]) | refine AL.nil ?_ | (refine AL.op rfl (OpOK.ari64 rfl rfl rfl rfl rfl (by omega) (by omega)) ?_) | (refine AL.op rfl (OpOK.index_map tabs rfl rfl rfl rfl rfl rfl rfl (fun _ => rfl) (by decide) (by omega) (by omega)) ?_)) | refine AW.seq ?_ | refine AW.region ?_ | refine Then.norm ?_ | refine AW.skip ?_ | refine AW.block ?_ | refine InB.norm ?_ | refine AW.condT rfl ?_ | refine AW.condF rfl ?_ | (refine AW.cond rfl (fun hc => ?_) (fun hc => ?_) <;> (try simp only [hsx] at hc) <;> (try first | (exfalso; omega) | contradiction | (exfalso; simp [dec_eq] at hc; done))) | refine AW.ret ?_ | refine AW.exit ?_ | refine Then.ret ?_ | refine Then.exit ?_ | refine InB.ret ?_ | refine InB.here ?_ | refine InB.off rfl ?_ | refine Rnd.ret ?_ | refine Rnd.exit ?_))
  · have e : shortB l = false := by
      unfold shortB
      rw [List.all_eq_false]
      exact ⟨_, atI_mem h0 (by assumption), by simp; omega⟩
    rw [e]; exact RQ.fin rfl rfl rfl
  · refine Rnd.norm (i + 1) (Le.cut 0 rfl ⟨rfl, rfl, rfl, trivial⟩ rfl rfl (Nat.zero_le _)) ⟨by omega, by omega, ?_⟩ (by omega)
    rw [take_next h0 (by assumption)]
    unfold shortB at h2 ⊢
    rw [List.all_append, h2]
    simp; omega
  · rw [take_end hc] at h2
    rw [h2]; exact RQ.fin rfl rfl rfl
noncomputable def namedB (n : Name) : Bool := !dec (n.lc = es) && shortB [n.sp, n.pf, n.lc] && (dec (n.pf = es) || !dec (n.sp = es))
theorem named_c (n : Name) : PureC Tryz.prog 175 [n.av] (bav (namedB n)) := by
  refine PureC.mk tabs Tryz.func175 26 _ rfl rfl rfl rfl rfl ?_
  intro w0 X
  unfold namedB
  (repeat' (first | ((with_reducible show AL _ _ _ _ _); first | (refine AL.step tabs rfl ?_; try dsimp only [len, List.nil_append, List.cons_append]) | refine AL.op rfl (OpOK.callfz rfl rfl rfl rfl (short_c [n.sp, n.pf, n.lc] (by simp)) rfl rfl) ?_ | refine AL.nil ?_ | (refine AL.gsplitE rfl rfl rfl (fun hc => ?_) (fun hc => ?_) <;> (fail_if_success (exact absurd hc (by decide))) <;> (try simp only [hsx] at hc) <;> (try first | (exfalso; omega) | contradiction | (exfalso; simp [dec_eq] at hc; done)))) | refine AW.seq ?_ | refine AW.region ?_ | refine Then.norm ?_ | refine AW.skip ?_ | refine AW.ret ?_ | refine Then.ret ?_))
  all_goals (first | exact RQ.fin rfl rfl rfl | exact RQ.fin' rfl rfl rfl | (refine RQ.fin rfl rfl (congrArg bav ?_); simp_all [es, dec_T, dec_F]; done))
def cntB (l : List Int) (h : Int) : Nat := l.countP fun x => x == h
theorem once_c (l : List Int) (h : Int) (hl : l.length ≤ 1000000000) : PureC Tryz.prog 146 [.imm (.sl (l.map i64)), iav h] (bav (dec ((cntB l h : Int) = 1))) := by
  refine PureC.mk tabs Tryz.func146 22 [.tmp 4] rfl rfl rfl rfl rfl ?_; intro w0 X
  (repeat' (first | ((with_reducible show AL _ _ _ _ _); first | (refine AL.step tabs rfl ?_; try dsimp only [len, List.nil_append, List.cons_append]) | refine AL.nil ?_ | (refine AL.op rfl (OpOK.ari64 rfl rfl rfl rfl rfl (by omega) (by omega)) ?_) | (refine AL.op rfl (OpOK.index_map tabs rfl rfl rfl rfl rfl rfl rfl (fun _ => rfl) (by decide) (by omega) (by omega)) ?_)) | fail | refine AW.seq ?_ | refine AW.region ?_ | refine Then.norm ?_ | refine AW.skip ?_ | refine AW.block ?_ | refine InB.norm ?_ | refine AW.condT rfl ?_ | refine AW.condF rfl ?_ | (refine AW.cond rfl (fun hc => ?_) (fun hc => ?_) <;> (try simp only [hsx] at hc) <;> (try first | (exfalso; omega) | contradiction | (exfalso; simp [dec_eq] at hc; done))) | refine AW.ret ?_ | refine AW.exit ?_ | refine Then.ret ?_ | refine Then.exit ?_ | refine InB.ret ?_ | refine InB.here ?_ | refine InB.off rfl ?_ | refine Rnd.ret ?_ | refine Rnd.exit ?_))
  refine AW.loop (α := Int) (fun i => ⟨[(1, iav h), (5, iav (cntB (l.take i.toNat) h)), (8, .imm (.sl (l.map i64))), (9, iav (l.map i64).length), (10, iav i)], []⟩) (fun i => 0 ≤ i ∧ i ≤ l.length) (fun i => (l.length - i).toNat) 0 (Le.cut 0 rfl ⟨rfl, rfl, rfl, rfl, rfl, trivial⟩ rfl rfl (Nat.zero_le _)) ⟨by omega, by omega⟩ ?_
  intro i ⟨h0, h1⟩
  have hb : cntB (l.take i.toNat) h ≤ l.length := Nat.le_trans List.countP_le_length (by simp; omega)
  (repeat' (first | ((with_reducible show AL _ _ _ _ _); first | (refine AL.step tabs rfl ?_; try dsimp only [len, List.nil_append, List.cons_append]) | refine AL.nil ?_ | (refine AL.op rfl (OpOK.ari64 rfl rfl rfl rfl rfl (by omega) (by omega)) ?_) | (refine AL.op rfl (OpOK.index_map tabs rfl rfl rfl rfl rfl rfl rfl (fun _ => rfl) (by decide) (by omega) (by omega)) ?_)) | refine AW.seq ?_ | refine AW.region ?_ | refine Then.norm ?_ | refine AW.skip ?_ | refine AW.block ?_ | refine InB.norm ?_ | refine AW.condT rfl ?_ | refine AW.condF rfl ?_ | (refine AW.cond rfl (fun hc => ?_) (fun hc => ?_) <;> (try simp only [hsx] at hc) <;> (try first | (exfalso; omega) | contradiction | (exfalso; simp [dec_eq] at hc; done))) | refine AW.ret ?_ | refine AW.exit ?_ | refine Then.ret ?_ | refine Then.exit ?_ | refine InB.ret ?_ | refine InB.here ?_ | refine InB.off rfl ?_ | refine Rnd.ret ?_ | refine Rnd.exit ?_))
  · have e : cntB (l.take (i + 1).toNat) h = cntB (l.take i.toNat) h + 1 := by
      rw [take_next h0 (by assumption)]
      unfold cntB
      rw [List.countP_append]
      simp [hc]
    refine Rnd.norm (i + 1) (Le.cut 0 rfl ⟨rfl, by simp only [e]; rfl, rfl, rfl, rfl, trivial⟩ rfl rfl (Nat.zero_le _)) ⟨by omega, by omega⟩ (by omega)
  · have e : cntB (l.take (i + 1).toNat) h = cntB (l.take i.toNat) h := by
      rw [take_next h0 (by assumption)]
      unfold cntB
      rw [List.countP_append]
      simp [hc]
    refine Rnd.norm (i + 1) (Le.cut 0 rfl ⟨rfl, by simp only [e]; rfl, rfl, rfl, rfl, trivial⟩ rfl rfl (Nat.zero_le _)) ⟨by omega, by omega⟩ (by omega)
  · rw [take_end hc]; exact RQ.fin rfl rfl rfl
end Go.Proofs.YtmhejcnaanocpaaGreat.A
namespace Go.Proofs.YtmhejcnaanocpaaGreat.A
set_option linter.unusedVariables false
set_option linter.unusedSimpArgs false
set_option maxRecDepth 100000
set_option maxHeartbeats 4000000
theorem drop_next {α : Type} [Inhabited α] {l : List α} {i : Int} (h0 : 0 ≤ i) (h1 : i < l.length) : l.drop i.toNat = atI l i :: l.drop (i + 1).toNat := by
  rw [show (i + 1).toNat = i.toNat + 1 by omega]
  unfold atI
  rw [List.getD_eq_getElem?_getD, List.getElem?_eq_getElem (by omega)]
  exact List.drop_eq_getElem_cons (by omega)
theorem drop_end {α : Type} {l : List α} {i : Int} (h : l.length ≤ i) : l.drop i.toNat = [] := List.drop_eq_nil_of_le (by omega)
def key (n : Name) : ByteArray × ByteArray := (n.sp, n.lc)
theorem keyOf_c (n : Name) : PureC Tryz.prog 176 [n.av] (.agg [sav (key n).1, sav (key n).2]) := by
  refine PureC.mk tabs Tryz.func176 8 [.cell 2 177] rfl rfl rfl rfl rfl ?_; intro w0 X
  (repeat' (first | ((with_reducible show AL _ _ _ _ _); first | (refine AL.step tabs rfl ?_; try dsimp only [len, List.nil_append, List.cons_append]) | refine AL.nil ?_) | refine AW.seq ?_ | refine AW.region ?_ | refine Then.norm ?_ | refine AW.skip ?_ | refine AW.ret ?_ | refine Then.ret ?_))
  exact RQ.fin' rfl rfl rfl
structure Trait where
  known : Bool
  data : Bool
  kids : Bool
  hung : Bool
  full : Bool
  locl : Bool
def Trait.av (t : Trait) : AV := .agg [bav t.known, bav t.data, bav t.kids, bav t.hung, bav t.full, bav t.locl]
def traitsOf (k : Int) : Trait :=
  if k = 1 then ⟨true, false, true, true, true, false⟩ else
  if k = 3 ∨ k = 4 ∨ k = 8 then ⟨true, true, false, true, false, false⟩ else
  if k = 7 then ⟨true, true, false, true, false, true⟩ else
  if k = 10 then ⟨true, false, false, true, false, true⟩ else
  if k = 9 ∨ k = 11 ∨ k = 12 then ⟨true, false, true, false, false, false⟩ else ⟨false, false, false, false, false, false⟩
theorem traits_c (k : Int) : PureC Tryz.prog 141 [kav k] (traitsOf k).av := by
  have e : ∀ t, traitsOf k = t → (PureC Tryz.prog 141 [kav k] t.av → PureC Tryz.prog 141 [kav k] (traitsOf k).av) := fun t h h1 => by rw [h]; exact h1
  refine PureC.mk tabs Tryz.func141 24 [.cell 2 146] rfl rfl rfl rfl rfl ?_; intro w0 X
  (repeat' (first | ((with_reducible show AL _ _ _ _ _); first | (refine AL.step tabs rfl ?_; try dsimp only [len, List.nil_append, List.cons_append]) | refine AL.nil ?_) | refine AW.seq ?_ | refine AW.region ?_ | refine Then.norm ?_ | refine AW.skip ?_ | refine AW.block ?_ | refine InB.norm ?_ | refine AW.condT rfl ?_ | refine AW.condF rfl ?_ | (refine AW.cond rfl (fun hc => ?_) (fun hc => ?_) <;> (try simp only [hsx] at hc) <;> (try first | (exfalso; omega) | contradiction | (exfalso; simp [dec_eq] at hc; done))) | refine AW.ret ?_ | refine AW.exit ?_ | refine Then.ret ?_ | refine Then.exit ?_ | refine InB.ret ?_ | refine InB.here ?_ | refine InB.off rfl ?_))
  all_goals (rw [show traitsOf k = _ by unfold traitsOf; simp [*]; rfl]; first | exact RQ.fin rfl rfl rfl | exact RQ.fin' rfl rfl rfl)
noncomputable def namingB (n : Node) (t : Trait) : Bool :=
  if t.full = true then namedB n.name else
  if t.locl = true then dec (n.name.lc ≠ es) && shortB [n.name.lc] && dec (n.name.sp = es ∧ n.name.pf = es) else dec (n.name.sp = es ∧ n.name.pf = es ∧ n.name.lc = es)
theorem naming_c (n : Node) (t : Trait) : PureC Tryz.prog 142 [n.av, t.av] (bav (namingB n t)) := by
  refine PureC.mk tabs Tryz.func142 38 [.tmp 4] rfl rfl rfl rfl rfl ?_; intro w0 X
  (repeat' (first | ((with_reducible show AL _ _ _ _ _); first | (refine AL.step tabs rfl ?_; try dsimp only [len, List.nil_append, List.cons_append]) | refine AL.op rfl (OpOK.call rfl rfl rfl rfl (named_c n.name) rfl) ?_ | refine AL.op rfl (OpOK.callfz rfl rfl rfl rfl (short_c [n.name.lc] (by simp)) rfl rfl) ?_ | refine AL.nil ?_ | (refine AL.gsplitE rfl rfl rfl (fun hc => ?_) (fun hc => ?_) <;> (fail_if_success (exact absurd hc (by decide))) <;> (try simp only [hsx] at hc) <;> (try first | (exfalso; omega) | contradiction | (exfalso; simp [dec_eq] at hc; done))) | (refine AL.op rfl (OpOK.eqs rfl rfl rfl rfl eqt39 rfl rfl) ?_)) | refine AW.seq ?_ | refine AW.region ?_ | refine Then.norm ?_ | refine AW.skip ?_ | refine AW.block ?_ | refine InB.norm ?_ | refine AW.condT rfl ?_ | refine AW.condF rfl ?_ | (refine AW.cond rfl (fun hc => ?_) (fun hc => ?_) <;> (try simp only [hsx] at hc) <;> (try first | (exfalso; omega) | contradiction | (exfalso; simp [dec_eq] at hc; done))) | refine AW.ret ?_ | refine AW.exit ?_ | refine Then.ret ?_ | refine Then.exit ?_ | refine InB.ret ?_ | refine InB.here ?_ | refine InB.off rfl ?_))
  all_goals (refine RQ.fin rfl rfl (congrArg bav ?_); simp_all [namingB, es, dec_T, dec_F, and_dec])
def famGo (K : Int → Int) (doc : Bool) : List Int → Int → Int → Bool
  | [], e, d => !doc || (decide (e < 2) && decide (d < 2))
  | k :: r, e, d =>
    if K k = 1 then famGo K doc r (e + 1) d else
    if K k = 10 then (if doc = false ∨ 0 < e then false else famGo K doc r e (d + 1)) else
    if K k = 3 ∨ K k = 4 then (if doc = true then false else famGo K doc r e d) else
    if K k = 8 ∨ K k = 7 then famGo K doc r e d else false
noncomputable def famB (f : List Node) (n : Node) : Bool := famGo (fun k => (nodeAt f k).kind) (dec (n.kind = 9)) n.kids 0 0
theorem family_c (f : List Node) (n : Node) (hl : f.length ≤ 1000000000) (hk : n.kids.length ≤ 1000000000) : PureC Tryz.prog 177 [fav f, n.av] (bav (famB f n)) := by
  refine PureC.mk tabs Tryz.func177 55 [.tmp 4] rfl rfl rfl rfl rfl ?_; intro w0 X
  (repeat' (first | ((with_reducible show AL _ _ _ _ _); first | (refine AL.step tabs rfl ?_; try dsimp only [len, List.nil_append, List.cons_append]) | refine AL.nil ?_ | (refine AL.gsplitE rfl rfl rfl (fun hc => ?_) (fun hc => ?_) <;> (fail_if_success (exact absurd hc (by decide))) <;> (try simp only [hsx] at hc) <;> (try first | (exfalso; omega) | contradiction | (exfalso; simp [dec_eq] at hc; done))) | (refine AL.op rfl (OpOK.ari64 rfl rfl rfl rfl rfl (by omega) (by omega)) ?_) | (refine AL.op rfl (OpOK.index_map tabs rfl rfl rfl rfl rfl rfl rfl (fun _ => rfl) (by decide) (by omega) (by omega)) ?_)) | fail | refine AW.seq ?_ | refine AW.region ?_ | refine Then.norm ?_ | refine AW.skip ?_ | refine AW.block ?_ | refine InB.norm ?_ | refine AW.condT rfl ?_ | refine AW.condF rfl ?_ | (refine AW.cond rfl (fun hc => ?_) (fun hc => ?_) <;> (try simp only [hsx] at hc) <;> (try first | (exfalso; omega) | contradiction | (exfalso; simp [dec_eq] at hc; done))) | refine AW.ret ?_ | refine AW.exit ?_ | refine Then.ret ?_ | refine Then.exit ?_ | refine InB.ret ?_ | refine InB.here ?_ | refine InB.off rfl ?_ | refine Rnd.ret ?_ | refine Rnd.exit ?_))
  refine AW.loop (α := Int × Int × Int) (fun x => ⟨[(2, .ptr 0 1 0 0), (5, bav (dec (n.kind = 9))), (6, iav x.2.1), (7, iav x.2.2), (14, .imm (.sl (n.kids.map i64))), (15, iav (n.kids.map i64).length), (16, iav x.1)], [⟨24, 1, [[.imm (.sl (f.map Node.iv))]]⟩]⟩) (fun x => 0 ≤ x.1 ∧ x.1 ≤ n.kids.length ∧ 0 ≤ x.2.1 ∧ x.2.1 ≤ x.1 ∧ 0 ≤ x.2.2 ∧ x.2.2 ≤ x.1 ∧ famGo (fun k => (nodeAt f k).kind) (dec (n.kind = 9)) (n.kids.drop x.1.toNat) x.2.1 x.2.2 = famB f n) (fun x => (n.kids.length - x.1).toNat) (0, 0, 0) (Le.cut 1 rfl (by repeat' (first | exact trivial | refine ⟨rfl, ?_⟩)) rfl rfl (Nat.zero_le _)) ⟨by simp, by simp, by simp, by simp, by simp, by simp, rfl⟩ ?_
  rintro ⟨i, e, d⟩ ⟨h0, h1, h3, h4, h5, h6, h2⟩
  simp only at h0 h1 h2 h3 h4 h5 h6
  (repeat' (first | ((with_reducible show AL _ _ _ _ _); first | (refine AL.step tabs rfl ?_; try dsimp only [len, List.nil_append, List.cons_append]) | refine AL.op rfl (OpOK.call rfl rfl rfl rfl (kind_c f _ hl) rfl) ?_ | refine AL.nil ?_ | (refine AL.gsplitE rfl rfl rfl (fun hc => ?_) (fun hc => ?_) <;> (fail_if_success (exact absurd hc (by decide))) <;> (try simp only [hsx] at hc) <;> (try first | (exfalso; omega) | contradiction | (exfalso; simp [dec_eq] at hc; done))) | (refine AL.op rfl (OpOK.ari64 rfl rfl rfl rfl rfl (by omega) (by omega)) ?_) | (refine AL.op rfl (OpOK.index_map tabs rfl rfl rfl rfl rfl rfl rfl (fun _ => rfl) (by decide) (by omega) (by omega)) ?_)) | refine AW.seq ?_ | refine AW.region ?_ | refine Then.norm ?_ | refine AW.skip ?_ | refine AW.block ?_ | refine InB.norm ?_ | refine AW.condT rfl ?_ | refine AW.condF rfl ?_ | (refine AW.cond rfl (fun hc => ?_) (fun hc => ?_) <;> (try simp only [hsx] at hc) <;> (try first | (exfalso; omega) | contradiction | (exfalso; simp [dec_eq] at hc; done))) | refine AW.ret ?_ | refine AW.exit ?_ | refine Then.ret ?_ | refine Then.exit ?_ | refine InB.ret ?_ | refine InB.here ?_ | refine InB.off rfl ?_ | refine Rnd.ret ?_ | refine Rnd.exit ?_))
  all_goals first
    | (refine RQ.fin rfl rfl (congrArg bav ?_); rw [← h2]; clear h2; (first | rw [drop_next h0 (by assumption)] | rw [drop_end (by assumption)]); simp [famGo, dec_T, dec_F, dec_eq, *] <;> omega)
    | (refine Rnd.norm (i + 1, e + 1, d) (Le.cut 1 rfl ⟨rfl, rfl, rfl, rfl, rfl, rfl, rfl, trivial⟩ rfl rfl (Nat.zero_le _)) ⟨?_, ?_, ?_, ?_, ?_, ?_, ?_⟩ ?_ <;> simp only <;> first | omega | (rw [← h2]; clear h2; rw [drop_next h0 (by assumption)]; simp [famGo, dec_T, dec_F, dec_eq, *]; done))
    | (refine Rnd.norm (i + 1, e, d + 1) (Le.cut 1 rfl ⟨rfl, rfl, rfl, rfl, rfl, rfl, rfl, trivial⟩ rfl rfl (Nat.zero_le _)) ⟨?_, ?_, ?_, ?_, ?_, ?_, ?_⟩ ?_ <;> simp only <;> first | omega | (rw [← h2]; clear h2; rw [drop_next h0 (by assumption)]; simp [famGo, dec_T, dec_F, dec_eq, *]; done))
    | (refine Rnd.norm (i + 1, e, d) (Le.cut 1 rfl ⟨rfl, rfl, rfl, rfl, rfl, rfl, rfl, trivial⟩ rfl rfl (Nat.zero_le _)) ⟨?_, ?_, ?_, ?_, ?_, ?_, ?_⟩ ?_ <;> simp only <;> first | omega | (rw [← h2]; clear h2; rw [drop_next h0 (by assumption)]; simp [famGo, dec_T, dec_F, dec_eq, *]; done))
end Go.Proofs.YtmhejcnaanocpaaGreat.A
namespace Go.Proofs.YtmhejcnaanocpaaGreat.A
set_option linter.unusedVariables false
set_option linter.unusedSimpArgs false
set_option maxRecDepth 100000
set_option maxHeartbeats 4000000
noncomputable def kidsGo (f : List Node) (h doc : Int) (seen : List Int) : List Int → Bool
  | [] => true
  | k :: r => if inB f k = false then false else if dec (k ∈ seen) = true then false else if dec ((nodeAt f k).parent = h) = false then false else if dec ((nodeAt f k).doc = doc) = false then false else kidsGo f h doc (seen ++ [k]) r
noncomputable def kidsB (f : List Node) (h : Int) (n : Node) : Bool := kidsGo f h n.doc [] n.kids && famB f n
theorem kidsOf_c (f : List Node) (h : Int) (n : Node) (hl : f.length ≤ 1000000000) (hk : n.kids.length ≤ 1000000000) : PureC Tryz.prog 148 [fav f, iav h, n.av] (bav (kidsB f h n)) := by
  refine PureC.mk tabs Tryz.func148 55 [.tmp 6] rfl rfl rfl rfl rfl ?_; intro w0 X
  (repeat' (first | ((with_reducible show AL _ _ _ _ _); first | (refine AL.step tabs rfl ?_; try dsimp only [len, List.nil_append, List.cons_append]) | refine AL.makeMap rfl rfl rfl (fun g hg => ?_) | refine AL.nil ?_ | (refine AL.gsplitE rfl rfl rfl (fun hc => ?_) (fun hc => ?_) <;> (fail_if_success (exact absurd hc (by decide))) <;> (try simp only [hsx] at hc) <;> (try first | (exfalso; omega) | contradiction | (exfalso; simp [dec_eq] at hc; done))) | (refine AL.op rfl (OpOK.ari64 rfl rfl rfl rfl rfl (by omega) (by omega)) ?_) | (refine AL.op rfl (OpOK.index_map tabs rfl rfl rfl rfl rfl rfl rfl (fun _ => rfl) (by decide) (by omega) (by omega)) ?_)) | refine AW.seq ?_ | refine AW.region ?_ | refine Then.norm ?_ | refine AW.skip ?_ | refine AW.block ?_ | refine InB.norm ?_ | refine AW.condT rfl ?_ | refine AW.condF rfl ?_ | (refine AW.cond rfl (fun hc => ?_) (fun hc => ?_) <;> (try simp only [hsx] at hc) <;> (try first | (exfalso; omega) | contradiction | (exfalso; simp [dec_eq] at hc; done))) | refine AW.ret ?_ | refine AW.exit ?_ | refine Then.ret ?_ | refine Then.exit ?_ | refine InB.ret ?_ | refine InB.here ?_ | refine InB.off rfl ?_ | refine Rnd.ret ?_ | refine Rnd.exit ?_))
  refine AW.loop (α := Int) (fun i => ⟨[(1, iav h), (3, .ptr 0 1 0 0), (5, .ptr 1 1 0 0), (7, .mp g ((n.kids.take i.toNat).map i64) ((n.kids.take i.toNat).map fun _ => [.int .i64 1])), (14, .imm (.sl (n.kids.map i64))), (15, iav (n.kids.map i64).length), (16, iav i)], [⟨24, 1, [[.imm (.sl (f.map Node.iv))]]⟩, ⟨44, 16, [n.iv.map .imm]⟩]⟩) (fun i => 0 ≤ i ∧ i ≤ n.kids.length ∧ kidsGo f h n.doc (n.kids.take i.toNat) (n.kids.drop i.toNat) = kidsGo f h n.doc [] n.kids) (fun i => (n.kids.length - i).toNat) 0 (Le.cut 2 rfl ⟨rfl, rfl, rfl, rfl, rfl, rfl, rfl, trivial⟩ rfl rfl (Nat.zero_le _)) ⟨by omega, by omega, rfl⟩ ?_
  intro i ⟨h0, h1, h2⟩
  (repeat' (first | ((with_reducible show AL _ _ _ _ _); first | (refine AL.step tabs rfl ?_; try dsimp only [len, List.nil_append, List.cons_append]) | refine AL.op rfl (OpOK.call rfl rfl rfl rfl (at_c f (atI n.kids i) hl) rfl) ?_ | refine AL.op rfl (OpOK.call rfl rfl rfl rfl (family_c f n hl hk) rfl) ?_ | refine AL.op rfl (OpOK.look0 (kf := i64) key3 Tryz.underlying180 zero3 rfl rfl rfl rfl (q := atI n.kids i) rfl (by assumption)) ?_ | refine AL.op rfl (OpOK.look1 (kf := i64) key3 Tryz.underlying180 zero3 rfl rfl rfl rfl rfl (q := atI n.kids i) rfl) ?_ | refine AL.op rfl (OpOK.put0 (kf := i64) key3 Tryz.underlying180 rfl (.inl rfl) hg rfl rfl (q := atI n.kids i) rfl (v := [.int .i64 (0 + 1)]) rfl (fun M z hz => pkA_inv hz) (by assumption) (by repeat' (first | exact trivial | refine ⟨rfl, ?_⟩)) rfl) ?_ | refine AL.nil ?_ | (refine AL.gsplitE rfl rfl rfl (fun hc => ?_) (fun hc => ?_) <;> (fail_if_success (exact absurd hc (by decide))) <;> (try simp only [hsx] at hc) <;> (try first | (exfalso; omega) | contradiction | (exfalso; simp [dec_eq] at hc; done))) | (refine AL.op rfl (OpOK.ari64 rfl rfl rfl rfl rfl (by omega) (by omega)) ?_) | (refine AL.op rfl (OpOK.index_map tabs rfl rfl rfl rfl rfl rfl rfl (fun _ => rfl) (by decide) (by omega) (by omega)) ?_)) | refine AW.seq ?_ | refine AW.region ?_ | refine Then.norm ?_ | refine AW.skip ?_ | refine AW.block ?_ | refine InB.norm ?_ | refine AW.condT rfl ?_ | refine AW.condF rfl ?_ | (refine AW.cond rfl (fun hc => ?_) (fun hc => ?_) <;> (try simp only [hsx] at hc) <;> (try first | (exfalso; omega) | contradiction | (exfalso; simp [dec_eq] at hc; done))) | refine AW.ret ?_ | refine AW.exit ?_ | refine Then.ret ?_ | refine Then.exit ?_ | refine InB.ret ?_ | refine InB.here ?_ | refine InB.off rfl ?_ | refine Rnd.ret ?_ | refine Rnd.exit ?_))
  · refine RQ.fin rfl rfl (congrArg bav ?_)
    unfold kidsB
    rw [← h2, drop_next h0 (by assumption)]; simp [kidsGo, hc]
  · refine RQ.fin rfl rfl (congrArg bav ?_)
    unfold kidsB
    rw [← h2, drop_next h0 (by assumption), kidsGo, dec_pos hc]; simp
  · refine RQ.fin rfl rfl (congrArg bav ?_)
    unfold kidsB
    rw [← h2, drop_next h0 (by assumption), kidsGo, dec_neg hc]; simp
  · refine RQ.fin rfl rfl (congrArg bav ?_)
    unfold kidsB
    rw [← h2, drop_next h0 (by assumption), kidsGo, dec_neg hc]; simp
  · have hi : i < n.kids.length := by assumption
    have hn : atI n.kids i ∉ n.kids.take i.toNat := by assumption
    have ek : n.kids.take (i + 1).toNat = n.kids.take i.toNat ++ [atI n.kids i] := take_next h0 hi
    refine Rnd.norm (i + 1) (Le.cut 2 rfl ⟨rfl, rfl, rfl, (by rw [ek, List.map_append, List.map_append]; rfl), rfl, rfl, rfl, trivial⟩ rfl rfl (Nat.zero_le _)) ⟨by omega, by omega, ?_⟩ (by omega)
    rw [ek, ← h2, drop_next h0 hi]
    simp only [kidsGo]
    rw [dec_neg hn]
    simp [*, dec_T]
  · refine RQ.fin rfl rfl (congrArg bav ?_)
    unfold kidsB
    rw [← h2, drop_end (by assumption)]; simp [kidsGo]
end Go.Proofs.YtmhejcnaanocpaaGreat.A
namespace Go.Proofs.YtmhejcnaanocpaaGreat.A
set_option linter.unusedVariables false
set_option linter.unusedSimpArgs false
set_option maxRecDepth 100000
set_option maxHeartbeats 4000000
noncomputable def attrsGo (seen : List (ByteArray × ByteArray)) : List Attr → Bool
  | [] => true
  | a :: r => if namedB a.name = false then false else if 4096 < a.value.size then false else if dec (key a.name ∈ seen) = true then false else attrsGo (seen ++ [key a.name]) r
noncomputable def attrsB (l : List Attr) : Bool := decide (l.length ≤ 64) && attrsGo [] l
def akf (p : ByteArray × ByteArray) : List IV := [.str p.1, .str p.2]
theorem attributes_c (l : List Attr) (hl : l.length ≤ 1000000000) : PureC Tryz.prog 143 [.imm (.sl (l.map Attr.iv))] (bav (attrsB l)) := by
  refine PureC.mk tabs Tryz.func143 43 [.tmp 2] rfl rfl rfl rfl rfl ?_; intro w0 X
  (repeat' (first | ((with_reducible show AL _ _ _ _ _); first | (refine AL.step tabs rfl ?_; try dsimp only [len, List.nil_append, List.cons_append]) | refine AL.makeMap rfl rfl rfl (fun g hg => ?_) | refine AL.nil ?_ | (refine AL.gsplitE rfl rfl rfl (fun hc => ?_) (fun hc => ?_) <;> (fail_if_success (exact absurd hc (by decide))) <;> (try simp only [hsx] at hc) <;> (try first | (exfalso; omega) | contradiction | (exfalso; simp [dec_eq] at hc; done))) | (refine AL.op rfl (OpOK.ari64 rfl rfl rfl rfl rfl (by omega) (by omega)) ?_) | (refine AL.op rfl (OpOK.index_map tabs rfl rfl rfl rfl rfl rfl rfl (fun _ => rfl) (by decide) (by omega) (by omega)) ?_)) | ((with_reducible show DQ _ _ _ _ _ _); first | refine DQ.stepc (LS.val tabs rfl rfl rfl) rfl rfl rfl rfl rfl ?_ | refine DQ.stepc (LS.skip rfl rfl) rfl rfl rfl rfl rfl ?_ | refine DQ.nilM (by kernel_rfl) ?_ | refine DQ.stepc (LS.ari64 rfl rfl rfl rfl rfl rfl (by omega) (by omega)) rfl rfl rfl rfl rfl ?_ | refine DQ.stepc (LS.index_map tabs rfl rfl rfl rfl rfl rfl rfl rfl (fun _ => rfl) (by decide) (by omega) (by omega)) rfl rfl rfl rfl rfl ?_ | (refine DQ.gsplitE rfl rfl rfl (fun hc => ?_) (fun hc => ?_) <;> (fail_if_success (exact absurd hc (by decide))) <;> (try simp only [hsx] at hc) <;> (try first | (exfalso; omega) | contradiction | (exfalso; simp [dec_eq] at hc; done)))) | refine AW.seq ?_ | refine AW.region ?_ | refine Then.norm ?_ | refine AW.skip ?_ | refine AW.block ?_ | refine InB.norm ?_ | refine AW.condT rfl ?_ | refine AW.condF rfl ?_ | (refine AW.cond rfl (fun hc => ?_) (fun hc => ?_) <;> (try simp only [hsx] at hc) <;> (try first | (exfalso; omega) | contradiction | (exfalso; simp [dec_eq] at hc; done))) | refine AW.ret ?_ | refine AW.exit ?_ | refine Then.ret ?_ | refine Then.exit ?_ | refine InB.ret ?_ | refine InB.here ?_ | refine InB.off rfl ?_ | refine Rnd.ret ?_ | refine Rnd.exit ?_ | refine AW.drawW mixed (by kernel_rfl) ?_))
  · refine RQ.fin rfl rfl (congrArg bav ?_)
    unfold attrsB
    rw [show decide (l.length ≤ 64) = false by simp; omega]; rfl
  refine AW.loop (α := Int) (fun i => ⟨[(3, .mp g (((l.take i.toNat).map fun a => key a.name).map akf) (((l.take i.toNat).map fun a => key a.name).map fun _ => [.int .i64 1])), (11, .imm (.sl (l.map Attr.iv))), (12, iav (l.map Attr.iv).length), (13, iav i)], []⟩) (fun i => 0 ≤ i ∧ i ≤ l.length ∧ attrsGo ((l.take i.toNat).map fun a => key a.name) (l.drop i.toNat) = attrsGo [] l) (fun i => (l.length - i).toNat) 0 (Le.cut 0 rfl ⟨rfl, rfl, rfl, rfl, trivial⟩ rfl rfl (Nat.zero_le _)) ⟨by omega, by omega, rfl⟩ ?_
  intro i ⟨h0, h1, h2⟩
  (repeat' (first | ((with_reducible show AL _ _ _ _ _); first | (refine AL.step tabs rfl ?_; try dsimp only [len, List.nil_append, List.cons_append]) | refine AL.op rfl (OpOK.call rfl rfl rfl rfl (keyOf_c (atI l i).name) rfl) ?_ | refine AL.op rfl (OpOK.call rfl rfl rfl rfl (named_c (atI l i).name) rfl) ?_ | refine AL.op rfl (OpOK.look1 (kf := akf) key177 Tryz.underlying175 zero3 rfl rfl rfl rfl rfl (q := key (atI l i).name) rfl) ?_ | refine AL.nil ?_ | (refine AL.gsplitE rfl rfl rfl (fun hc => ?_) (fun hc => ?_) <;> (fail_if_success (exact absurd hc (by decide))) <;> (try simp only [hsx] at hc) <;> (try first | (exfalso; omega) | contradiction | (exfalso; simp [dec_eq] at hc; done))) | (refine AL.op rfl (OpOK.ari64 rfl rfl rfl rfl rfl (by omega) (by omega)) ?_) | (refine AL.op rfl (OpOK.index_map tabs rfl rfl rfl rfl rfl rfl rfl (fun _ => rfl) (by decide) (by omega) (by omega)) ?_)) | ((with_reducible show DQ _ _ _ _ _ _); first | refine DQ.stepc (LS.val tabs rfl rfl rfl) rfl rfl rfl rfl rfl ?_ | refine DQ.stepc (LS.skip rfl rfl) rfl rfl rfl rfl rfl ?_ | refine DQ.nilM (by kernel_rfl) ?_ | refine DQ.stepc (LS.ari64 rfl rfl rfl rfl rfl rfl (by omega) (by omega)) rfl rfl rfl rfl rfl ?_ | refine DQ.stepc (LS.index_map tabs rfl rfl rfl rfl rfl rfl rfl rfl (fun _ => rfl) (by decide) (by omega) (by omega)) rfl rfl rfl rfl rfl ?_ | (refine DQ.gsplitE rfl rfl rfl (fun hc => ?_) (fun hc => ?_) <;> (fail_if_success (exact absurd hc (by decide))) <;> (try simp only [hsx] at hc) <;> (try first | (exfalso; omega) | contradiction | (exfalso; simp [dec_eq] at hc; done)))) | refine AW.seq ?_ | refine AW.region ?_ | refine Then.norm ?_ | refine AW.skip ?_ | refine AW.block ?_ | refine InB.norm ?_ | refine AW.condT rfl ?_ | refine AW.condF rfl ?_ | (refine AW.cond rfl (fun hc => ?_) (fun hc => ?_) <;> (try simp only [hsx] at hc) <;> (try first | (exfalso; omega) | contradiction | (exfalso; simp [dec_eq] at hc; done))) | refine AW.ret ?_ | refine AW.exit ?_ | refine Then.ret ?_ | refine Then.exit ?_ | refine InB.ret ?_ | refine InB.here ?_ | refine InB.off rfl ?_ | refine Rnd.ret ?_ | refine Rnd.exit ?_ ))
  · refine RQ.fin rfl rfl (congrArg bav ?_)
    unfold attrsB
    rw [← h2, drop_next h0 (by assumption)]; simp [attrsGo, hc]
  · have e : 4096 < (atI l i).value.size := by omega
    refine RQ.fin rfl rfl (congrArg bav ?_)
    unfold attrsB
    rw [← h2, drop_next h0 (by assumption)]; simp [attrsGo, e]
  · refine RQ.fin rfl rfl (congrArg bav ?_)
    unfold attrsB
    rw [← h2, drop_next h0 (by assumption), attrsGo, dec_pos hc]; simp
  · refine AW.orders mixed ?_
    have e : ¬ 4096 < (atI l i).value.size := by omega
    have hi : i < l.length := by assumption
    have ek : ((l.take (i + 1).toNat).map fun a => key a.name) = ((l.take i.toNat).map fun a => key a.name) ++ [key (atI l i).name] := by rw [take_next h0 hi, List.map_append]; rfl
    repeat' (first
      | refine AS.step tabs rfl rfl ?_
      | refine AS.op rfl rfl (OpOK.look0 (kf := akf) key177 Tryz.underlying175 zero3 rfl rfl rfl rfl (q := key (atI l i).name) rfl hc) ?_
      | refine AS.op rfl rfl (OpOK.look2 (kf := akf) (xs := (l.take i.toNat).map fun a => key a.name) (q := key (atI l i).name) key177 Tryz.underlying175 zero3 rfl rfl rfl rfl rfl (by simp) hc) ?_
      | refine AS.op rfl rfl (OpOK.ari64 rfl rfl rfl rfl rfl (by omega) (by omega)) ?_
      | refine AS.op rfl rfl (OpOK.ent0 (kf := akf) key177 Tryz.underlying175 zero3 rfl rfl rfl hg rfl rfl (q := key (atI l i).name) rfl hc (by repeat' (first | exact trivial | refine ⟨rfl, ?_⟩)) rfl) ?_
      | refine AS.op rfl rfl (OpOK.ent1 rfl rfl hg rfl (by simp) rfl (v := [.int .i64 (0 + 1)]) rfl (by repeat' (first | exact trivial | refine ⟨rfl, ?_⟩)) rfl) ?_
      | refine AD.nil (by decide +kernel) ?_
      | refine AD.two (i := 0) (j := 1) (by decide +kernel) ?_ ?_
      | refine AD.one (i := 0) (by decide +kernel) ?_
      | refine AD.one (i := 1) (by decide +kernel) ?_
      | refine AD.two (i := 2) (j := 4) (by decide +kernel) ?_ ?_
      | refine AD.two (i := 2) (j := 5) (by decide +kernel) ?_ ?_
      | refine AD.two (i := 3) (j := 4) (by decide +kernel) ?_ ?_
      | refine AD.two (i := 3) (j := 5) (by decide +kernel) ?_ ?_
      | refine AD.one (i := 2) (by decide +kernel) ?_
      | refine AD.one (i := 3) (by decide +kernel) ?_
      | refine AD.one (i := 4) (by decide +kernel) ?_
      | refine AD.one (i := 5) (by decide +kernel) ?_
      | refine AD.one (i := 6) (by decide +kernel) ?_)
    all_goals
      (repeat' (first | ((with_reducible show AL _ _ _ _ _); first | (refine AL.step tabs rfl ?_; try dsimp only [len, List.nil_append, List.cons_append]) | refine AL.nil ?_ | (refine AL.gsplitE rfl rfl rfl (fun hc => ?_) (fun hc => ?_) <;> (fail_if_success (exact absurd hc (by decide))) <;> (try simp only [hsx] at hc) <;> (try first | (exfalso; omega) | contradiction | (exfalso; simp [dec_eq] at hc; done))) | (refine AL.op rfl (OpOK.ari64 rfl rfl rfl rfl rfl (by omega) (by omega)) ?_) | (refine AL.op rfl (OpOK.index_map tabs rfl rfl rfl rfl rfl rfl rfl (fun _ => rfl) (by decide) (by omega) (by omega)) ?_)) | ((with_reducible show DQ _ _ _ _ _ _); first | refine DQ.stepc (LS.val tabs rfl rfl rfl) rfl rfl rfl rfl rfl ?_ | refine DQ.stepc (LS.skip rfl rfl) rfl rfl rfl rfl rfl ?_ | refine DQ.nilM (by kernel_rfl) ?_ | refine DQ.stepc (LS.ari64 rfl rfl rfl rfl rfl rfl (by omega) (by omega)) rfl rfl rfl rfl rfl ?_ | refine DQ.stepc (LS.index_map tabs rfl rfl rfl rfl rfl rfl rfl rfl (fun _ => rfl) (by decide) (by omega) (by omega)) rfl rfl rfl rfl rfl ?_ | (refine DQ.gsplitE rfl rfl rfl (fun hc => ?_) (fun hc => ?_) <;> (fail_if_success (exact absurd hc (by decide))) <;> (try simp only [hsx] at hc) <;> (try first | (exfalso; omega) | contradiction | (exfalso; simp [dec_eq] at hc; done)))) | refine AW.seq ?_ | refine AW.region ?_ | refine Then.norm ?_ | refine AW.skip ?_ | refine AW.block ?_ | refine InB.norm ?_ | refine AW.condT rfl ?_ | refine AW.condF rfl ?_ | (refine AW.cond rfl (fun hc => ?_) (fun hc => ?_) <;> (try simp only [hsx] at hc) <;> (try first | (exfalso; omega) | contradiction | (exfalso; simp [dec_eq] at hc; done))) | refine AW.ret ?_ | refine AW.exit ?_ | refine Then.ret ?_ | refine Then.exit ?_ | refine InB.ret ?_ | refine InB.here ?_ | refine InB.off rfl ?_ | refine Rnd.ret ?_ | refine Rnd.exit ?_ | refine AW.drawW mixed (by kernel_rfl) ?_))
      refine Rnd.norm (i + 1) (Le.cut 0 rfl ⟨(by rw [ek, List.map_append, List.map_append]; rfl), rfl, rfl, rfl, trivial⟩ rfl rfl (Nat.zero_le _)) ⟨by omega, by omega, ?_⟩ (by omega)
      rw [ek, ← h2, drop_next h0 hi]
      simp only [attrsGo]
      rw [dec_neg hc]
      simp [*]
  · refine RQ.fin rfl rfl (congrArg bav ?_)
    unfold attrsB
    rw [← h2, drop_end (by assumption), show decide (l.length ≤ 64) = true by simp; omega]; simp [attrsGo]
end Go.Proofs.YtmhejcnaanocpaaGreat.A
namespace Go.Proofs.YtmhejcnaanocpaaGreat.A
set_option linter.unusedVariables false
set_option linter.unusedSimpArgs false
set_option maxRecDepth 100000
set_option maxHeartbeats 4000000
def m11 (n : Node) : Prop := (traitsOf n.kind).known = true ∧ namingB n (traitsOf n.kind) = true ∧ attrsB n.attrs = true
def m27 (n : Node) : Prop := shortB [n.pub, n.sys] = true ∧ (n.kind = 10 ∨ n.pub = es ∧ n.sys = es)
def m50 (n : Node) : Prop := ¬ 16384 < (n.data.length : Int) ∧ ((traitsOf n.kind).data = true ∨ ¬ 0 < (n.data.length : Int)) ∧ ((traitsOf n.kind).kids = true ∨ ¬ 0 < (n.kids.length : Int))
def m77 (n : Node) : Prop := (n.kind = 1 ∨ ¬ 0 < (n.attrs.length : Int) ∧ n.shadow = 0) ∧ (n.kind = 9 ∨ n.html = false)
def m100 (n : Node) : Prop := (traitsOf n.kind).hung = true ∨ n.parent = 0
def m200 (n : Node) : Prop := (n.kind = 12 ∧ (n.mode = 1 ∨ n.mode = 2)) ∨ (n.kind ≠ 12 ∧ n.mode = 0 ∧ n.manual = false ∧ n.host = 0)
def madeP (n : Node) : Prop := m11 n ∧ m27 n ∧ m50 n ∧ m77 n ∧ m100 n ∧ m200 n
theorem made_c (n : Node) (hd : n.data.length ≤ 1000000000) (ha : n.attrs.length ≤ 1000000000) (hk : n.kids.length ≤ 1000000000) : PureC Tryz.prog 104 [n.av] (bav (dec (madeP n))) := by
  refine PureC.mk tabs Tryz.func104 133 [.tmp 2] rfl rfl rfl rfl rfl ?_; intro w0 X
  (repeat' (first | ((with_reducible show AL _ _ _ _ _); first | (refine AL.step tabs rfl ?_; try dsimp only [len, List.nil_append, List.cons_append]) | refine AL.op rfl (OpOK.call rfl rfl rfl rfl (traits_c n.kind) rfl) ?_ | refine AL.op rfl (OpOK.call rfl rfl rfl rfl (naming_c n (traitsOf n.kind)) rfl) ?_ | refine AL.op rfl (OpOK.call rfl rfl rfl rfl (attributes_c n.attrs ha) rfl) ?_ | refine AL.op rfl (OpOK.callfz rfl rfl rfl rfl (short_c [n.pub, n.sys] (by simp)) rfl rfl) ?_ | refine AL.nil ?_ | (refine AL.gsplitE rfl rfl rfl (fun hc => ?_) (fun hc => ?_) <;> (fail_if_success (exact absurd hc (by decide))) <;> (try simp only [hsx] at hc) <;> (try first | (exfalso; omega) | contradiction | (exfalso; simp [dec_eq] at hc; done)))) | refine AW.midc (t := 11) ⟨[(1, .ptr 0 1 0 0), (3, .ptr 1 1 0 0), (4, bav (dec (n.kind = 1))), (11, bav (dec (¬ m11 n)))], [⟨44, 16, [n.iv.map .imm]⟩, ⟨146, 6, [[bav (traitsOf n.kind).known, bav (traitsOf n.kind).data, bav (traitsOf n.kind).kids, bav (traitsOf n.kind).hung, bav (traitsOf n.kind).full, bav (traitsOf n.kind).locl]]⟩]⟩ ?_ ?_ | refine AW.midc (t := 27) ⟨[(1, .ptr 0 1 0 0), (3, .ptr 1 1 0 0), (4, bav (dec (n.kind = 1))), (27, bav (dec (¬ m27 n)))], [⟨44, 16, [n.iv.map .imm]⟩, ⟨146, 6, [[bav (traitsOf n.kind).known, bav (traitsOf n.kind).data, bav (traitsOf n.kind).kids, bav (traitsOf n.kind).hung, bav (traitsOf n.kind).full, bav (traitsOf n.kind).locl]]⟩]⟩ ?_ ?_ | refine AW.midc (t := 50) ⟨[(1, .ptr 0 1 0 0), (3, .ptr 1 1 0 0), (4, bav (dec (n.kind = 1))), (50, bav (dec (¬ m50 n)))], [⟨44, 16, [n.iv.map .imm]⟩, ⟨146, 6, [[bav (traitsOf n.kind).known, bav (traitsOf n.kind).data, bav (traitsOf n.kind).kids, bav (traitsOf n.kind).hung, bav (traitsOf n.kind).full, bav (traitsOf n.kind).locl]]⟩]⟩ ?_ ?_ | refine AW.midc (t := 77) ⟨[(1, .ptr 0 1 0 0), (3, .ptr 1 1 0 0), (4, bav (dec (n.kind = 1))), (77, bav (dec (¬ m77 n)))], [⟨44, 16, [n.iv.map .imm]⟩, ⟨146, 6, [[bav (traitsOf n.kind).known, bav (traitsOf n.kind).data, bav (traitsOf n.kind).kids, bav (traitsOf n.kind).hung, bav (traitsOf n.kind).full, bav (traitsOf n.kind).locl]]⟩]⟩ ?_ ?_ | refine AW.midc (t := 100) ⟨[(1, .ptr 0 1 0 0), (3, .ptr 1 1 0 0), (4, bav (dec (n.kind = 1))), (100, bav (dec (¬ m100 n)))], [⟨44, 16, [n.iv.map .imm]⟩, ⟨146, 6, [[bav (traitsOf n.kind).known, bav (traitsOf n.kind).data, bav (traitsOf n.kind).kids, bav (traitsOf n.kind).hung, bav (traitsOf n.kind).full, bav (traitsOf n.kind).locl]]⟩]⟩ ?_ ?_ | refine AW.seq ?_ | refine AW.region ?_ | refine Then.norm ?_ | refine AW.skip ?_ | refine AW.block ?_ | refine InB.norm ?_ | refine AW.condT rfl ?_ | refine AW.condF rfl ?_ | (refine AW.cond rfl (fun hc => ?_) (fun hc => ?_) <;> (try simp only [hsx] at hc) <;> (try first | (exfalso; omega) | contradiction | (exfalso; simp [dec_eq] at hc; done))) | refine AW.ret ?_ | refine AW.exit ?_ | refine Then.ret ?_ | refine Then.exit ?_ | refine InB.ret ?_ | refine InB.here ?_ | refine InB.off rfl ?_))
  all_goals first
    | (refine RQ.fin rfl rfl (congrArg bav ?_); rw [Bool.eq_iff_iff]; simp only [madeP, m200, dec_true, Bool.not_eq_true', dec_false]; grind)
    | (refine Mid.of (Le.cut 2 rfl ⟨rfl, rfl, rfl, get_bool rfl ?_, trivial⟩ rfl rfl (Nat.zero_le _)); rw [Bool.eq_iff_iff]; simp only [m11, m27, m50, m77, m100, es, dec_true, Bool.not_eq_true', dec_false]; grind)
end Go.Proofs.YtmhejcnaanocpaaGreat.A
namespace Go.Proofs.YtmhejcnaanocpaaGreat.A
set_option linter.unusedVariables false
set_option linter.unusedSimpArgs false
set_option maxRecDepth 100000
set_option maxHeartbeats 4000000
def l1 (f : List Node) (h : Int) (n : Node) : Prop := n.parent = 0 ∨ (inB f n.parent = true ∧ (cntB (nodeAt f n.parent).kids h : Int) = 1)
def l2 (f : List Node) (h : Int) (n : Node) : Prop := (nodeAt f n.doc).kind = 9 ∧ (n.kind = 9 → n.doc = h)
def l3 (f : List Node) (h : Int) (n : Node) : Prop := n.shadow = 0 ∨ (inB f n.shadow = true ∧ (nodeAt f n.shadow).kind = 12 ∧ (nodeAt f n.shadow).host = h)
def l4 (f : List Node) (h : Int) (n : Node) : Prop := n.kind = 12 → (inB f n.host = true ∧ (nodeAt f n.host).kind = 1 ∧ (nodeAt f n.host).shadow = h ∧ (nodeAt f n.host).doc = n.doc)
def linksP (f : List Node) (h : Int) (n : Node) : Prop := l1 f h n ∧ l2 f h n ∧ l3 f h n ∧ l4 f h n ∧ kidsB f h n = true
theorem links_c (f : List Node) (h : Int) (hl : f.length ≤ 1000000000) (hk : ∀ h, (nodeAt f h).kids.length ≤ 1000000000) (hk' : (atI f (h - 1)).kids.length ≤ 1000000000) (h1 : 1 ≤ h) (h2 : h ≤ f.length) : PureC Tryz.prog 105 [fav f, iav h] (bav (dec (linksP f h (atI f (h - 1))))) := by
  refine PureC.mk tabs Tryz.func105 110 [.tmp 4] rfl rfl rfl rfl rfl ?_; intro w0 X
  (repeat' (first | ((with_reducible show AL _ _ _ _ _); first | (refine AL.step tabs rfl ?_; try dsimp only [len, List.nil_append, List.cons_append]) | refine AL.op rfl (OpOK.call rfl rfl rfl rfl (at_c f (atI f (h - 1)).parent hl) rfl) ?_ | refine AL.op rfl (OpOK.call rfl rfl rfl rfl (at_c f (atI f (h - 1)).shadow hl) rfl) ?_ | refine AL.op rfl (OpOK.call rfl rfl rfl rfl (at_c f (atI f (h - 1)).host hl) rfl) ?_ | refine AL.op rfl (OpOK.call rfl rfl rfl rfl (kind_c f (atI f (h - 1)).doc hl) rfl) ?_ | refine AL.op rfl (OpOK.call rfl rfl rfl rfl (once_c (nodeAt f (atI f (h - 1)).parent).kids h (hk _)) rfl) ?_ | refine AL.op rfl (OpOK.call rfl rfl rfl rfl (kidsOf_c f h (atI f (h - 1)) hl hk') rfl) ?_ | refine AL.nil ?_ | (refine AL.gsplitE rfl rfl rfl (fun hc => ?_) (fun hc => ?_) <;> (fail_if_success (exact absurd hc (by decide))) <;> (try simp only [hsx] at hc) <;> (try first | (exfalso; omega) | contradiction | (exfalso; simp [dec_eq] at hc; done))) | (refine AL.op rfl (OpOK.ari64 rfl rfl rfl rfl rfl (by omega) (by omega)) ?_) | (refine AL.op rfl (OpOK.index_map tabs rfl rfl rfl rfl rfl rfl rfl (fun _ => rfl) (by decide) (by omega) (by omega)) ?_)) | refine AW.meet (t := 20) (l1 f h (atI f (h - 1))) ⟨[(1, iav h), (2, .ptr 0 1 0 0), (5, .ptr 1 1 0 0)], [⟨24, 1, [[.imm (.sl (f.map Node.iv))]]⟩, ⟨44, 16, [(atI f (h - 1)).iv.map .imm]⟩]⟩ ?_ (fun ml1 => ?_) | refine AW.meet (t := 52) (l2 f h (atI f (h - 1))) ⟨[(1, iav h), (2, .ptr 0 1 0 0), (5, .ptr 1 1 0 0)], [⟨24, 1, [[.imm (.sl (f.map Node.iv))]]⟩, ⟨44, 16, [(atI f (h - 1)).iv.map .imm]⟩]⟩ ?_ (fun ml2 => ?_) | refine AW.meet (t := 55) (l3 f h (atI f (h - 1))) ⟨[(1, iav h), (2, .ptr 0 1 0 0), (5, .ptr 1 1 0 0)], [⟨24, 1, [[.imm (.sl (f.map Node.iv))]]⟩, ⟨44, 16, [(atI f (h - 1)).iv.map .imm]⟩]⟩ ?_ (fun ml3 => ?_) | refine AW.meet (t := 78) (l4 f h (atI f (h - 1))) ⟨[(1, iav h), (2, .ptr 0 1 0 0), (5, .ptr 1 1 0 0)], [⟨24, 1, [[.imm (.sl (f.map Node.iv))]]⟩, ⟨44, 16, [(atI f (h - 1)).iv.map .imm]⟩]⟩ ?_ (fun ml4 => ?_) | refine AW.seq ?_ | refine AW.region ?_ | refine Then.norm ?_ | refine AW.skip ?_ | refine AW.condT rfl ?_ | refine AW.condF rfl ?_ | (refine AW.cond rfl (fun hc => ?_) (fun hc => ?_) <;> (try simp only [hsx] at hc) <;> (try first | (exfalso; omega) | contradiction | (exfalso; simp [dec_eq] at hc; done))) | refine AW.ret ?_ | refine Then.ret ?_))
  all_goals try (refine RQ.fin rfl rfl (congrArg bav ?_); rw [Bool.eq_iff_iff]; simp only [linksP, l1, l2, l3, l4, dec_true, Bool.not_eq_true', dec_false]; grind)
  all_goals try (refine Meet.of ?_ (Le.cut 2 rfl ⟨rfl, rfl, rfl, trivial⟩ rfl rfl (Nat.zero_le _)); simp only [l1, l2, l3, l4]; grind)
  refine RQ.fin rfl rfl (congrArg bav ?_)
  simp only [linksP, ml1, ml2, ml3, ml4, true_and, dec_bt]
end Go.Proofs.YtmhejcnaanocpaaGreat.A
