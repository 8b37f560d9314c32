/- The abstract walk, part Zc: lists of lists that become values; more of own lists. -/
import Derived.Test.YteijifoobaoclaaGreatAwZb
namespace Go.Proofs.YteijifoobaoclaaGreat.A
open Go.RowKit
set_option linter.unusedVariables false
set_option linter.unusedSimpArgs false
section
variable {C : Cx} {s t : St} {γ : Nat → Option Nat} {κ : Nat → Nat} {a : Act} {W : World} {o : Oper} {T : List (Nat × TI)} {l r rest : List Oper} {Q : Exit → St → Prop}
def FzI (C : Cx) (s : St) (c : AV) (v : IV) : Prop := ∀ γ κ a W x, Conc C s γ κ a W → RepA (s.mm C γ κ W) c x → RepI W C.X v x
theorem FzI.imm (v : IV) : FzI C s (.imm v) v := fun γ κ a W x hC h => by
  cases h with
  | imm _ _ h => exact h.keep fun b hb _ => ⟨rfl, fun hx => hb (.inl hx)⟩
theorem FzI.of {c : AV} {v : IV} (h : Fz C s c (.imm v)) : FzI C s c v := fun γ κ a W x hC hx => by
  have := h γ κ a W x hC hx
  cases this with
  | imm _ _ h => exact h
theorem Fz.osN {id n : Nat} {b : Blk} (hb : nth s.hp id = some b) (hver : n = b.rows.length) {rows : List (List IV)} (hlen : b.rows.length = rows.length) (hrl : ∀ r ∈ rows, r.length = b.sz) (hr : All2 (FzI C s) b.rows.flatten rows.flatten) : Fz C s (.os id n) (.imm (.sl rows)) := by
  intro γ κ a W x hC hx
  rw [nth_eq] at hb
  have hB := hC.blk id b hb
  have e := hx.os_val hb hver
  subst e
  rcases hB.mem with ⟨h1, h2, h3⟩ | ⟨g, ys, sp, h1, h2, h3, h4⟩
  · have : rows = [] := by
      rw [h2] at hlen
      exact List.length_eq_zero_iff.1 hlen.symm
    subst this
    have hn0 : n = 0 := by rw [hver, h2]; rfl
    subst hn0
    exact .imm _ _ (.nil _ _)
  · by_cases hne : rows = []
    · subst hne
      have hn0 : n = 0 := by rw [hver, hlen]; rfl
      subst hn0
      exact .imm _ _ (.nil _ _)
    · rw [h1]
      refine .imm _ _ (.sl rows ⟨g, 0, none⟩ n _ b.sz ys hne hB.pos (by rw [hver, hlen]) (by rw [hver]; exact hB.cap) ?_ hrl ?_ ?_)
      · have hid : id < s.hp.length := (List.getElem?_eq_some_iff.1 hb).1
        exact (hC.own id g hid h1).1
      · intro j y hj
        have e : (⟨g, 0, none⟩ : Addr).add j = ⟨g, 0 + j, none⟩ := by unfold Addr.add; split <;> simp_all
        have h2' : W.heap[g]? = some (.cells (ys ++ sp).toArray b.ty (0, 0)) := h2
        show W.cell? _ = _
        rw [e, blk_cell h2']
        simp only [List.getElem?_toArray, Nat.zero_add]
        rw [List.getElem?_append_left (List.getElem?_eq_some_iff.1 hj).1]; exact hj
      · have key : ∀ {l : List AV} {m : List IV} (_ : All2 (FzI C s) l m) {ys : List Value}, All2 (RepA (s.mm C γ κ W)) l ys → All2 (RepI W C.X) m ys := by
          intro l m h
          induction h with
          | nil => intro ys h; cases h; exact .nil
          | cons h1 _ ih =>
            intro ys h
            cases h with
            | cons h2 h3 => exact .cons (h1 _ _ _ _ _ hC h2) (ih h3)
        exact key hr h4
theorem all2_flat {α β : Type} {R : α → β → Prop} {l : List (List α)} {m : List (List β)} (h : All2 (All2 R) l m) : All2 R l.flatten m.flatten := by
  induction h with
  | nil => exact .nil
  | cons h1 _ ih => exact h1.append ih
theorem all2_map_both {α β γ : Type} {R : β → γ → Prop} {f : α → β} {g : α → γ} (h : ∀ x, R (f x) (g x)) : ∀ l : List α, All2 R (l.map f) (l.map g)
  | [] => .nil
  | x :: l => .cons (h x) (all2_map_both h l)
/-- s[n:] of a list of n elements. -/
theorem OpOK.cutEnd (hT : TsOK C.P T) (hd : dok C.nt o.dst = true) {t e : TypeId} {x : Operand} {lo hi : Option Operand} (ho : o.op = .slice t x lo hi none) {i ie : TI} (hi1 : look T t = some i) (hk : i.kd = .sl e) (hie : look T e = some ie) {n : Nat}
    (hx : ∀ γ κ a W, Conc C s γ κ a W → ∃ A c, a.eval x = .slice A n c ∧ n ≤ c) (hl : bnd s lo 0 = some (n : Int)) (hh : bnd s hi n = some (n : Int)) : OpOK C s o (s.put o.dst (.imm (.sl []))) :=
  OpOK.quiet hd fun γ κ a W hC => by
    obtain ⟨d, d1, d2, _⟩ := (hT t i hi1).und
    rw [hk] at d2
    obtain rfl := kd_sl d2
    obtain ⟨A, c, hxe, hc⟩ := hx γ κ a W hC
    have hb := bounds_run (P := C.P) hC hl hh (by omega) (Int.le_refl _) (show (n : Int) ≤ (c : Int) by omega) hc W
    have hs := (hT e ie hie).sizeOf W
    simp only [Int.toNat_natCast] at hb
    refine ⟨.slice (if c = n then A else A.map (·.add (n * ie.sz))) (n - n) (c - n), ?_, .imm _ _ ?_⟩
    · unfold execOp; rw [ho]
      simp only [hxe]
      refine val_run ?_
      unfold Instr.sliceAt
      rw [run_bind (und_run d1 W)]
      simp only
      unfold Instr.slice
      rw [run_bind (und_run d1 W)]
      simp only
      simp only [Option.map_none]
      rw [run_bind hb]
      simp only
      rw [run_bind hs]
      rfl
    · rw [Nat.sub_self]
      exact .nil _ _
theorem os_sl {x : Operand} {id n : Nat} {b : Blk} (hx : s.ev x = some (.os id n)) (hb : nth s.hp id = some b) (hv : n = b.rows.length) : ∀ γ κ a W, Conc C s γ κ a W → ∃ A c, a.eval x = .slice A n c ∧ n ≤ c := by
  intro γ κ a W hC
  rw [nth_eq] at hb
  exact ⟨_, _, (hC.ev hx).os_val hb hv, by rw [hv]; exact (hC.blk id b hb).cap⟩
theorem nocap_sl {x : Operand} (hx : s.ev x = some .nocap) : ∀ γ κ a W, Conc C s γ κ a W → ∃ A c, a.eval x = .slice A 0 c ∧ 0 ≤ c := by
  intro γ κ a W hC
  have h := hC.ev hx
  generalize a.eval x = xv at h
  cases h
  exact ⟨_, _, rfl, Nat.le_refl _⟩
theorem OpOK.len_nocap (hT : TsOK C.P T) (hd : dok C.nt o.dst = true) {x : Operand} {t : TypeId} (ho : o.op = .call ⟨.builtin .len, #[x], #[t]⟩) {i : TI} (hi : look T t = some i) {e : TypeId} (hk : i.kd = .sl e) (hx : s.ev x = some .nocap) : OpOK C s o (s.put o.dst (.imm (.int .i64 0))) :=
  OpOK.quiet hd fun γ κ a W hC => by
    obtain ⟨A, c, hxe, _⟩ := nocap_sl hx γ κ a W hC
    obtain ⟨d, d1, d2, _⟩ := (hT t i hi).und
    rw [hk] at d2
    obtain rfl := kd_sl d2
    refine ⟨.int .i64 0, ?_, .imm _ _ (.int _ _)⟩
    rw [call_builtin ho]
    have key : (Builtin.len_ #[t] o.type #[a.eval x]).run C.P W = .ok (.int .i64 0) W → (builtin .len #[t] o.type ((#[x] : Array Operand).map fun | .const _ => true | _ => false) ((#[x] : Array Operand).map a.eval)).run C.P W = .ok (.value (.int .i64 0)) W := by
      intro h
      simp only [builtin, List.map_toArray, List.map_cons, List.map_nil]
      rw [run_bind h]; rfl
    refine key ?_
    rw [hxe]
    unfold Builtin.len_
    simp only [List.getElem?_toArray, List.getElem?_cons_zero]
    rw [run_bind (und_run d1 W)]
    rfl
theorem LS.len_nocap (hT : TsOK C.P T) (hw : awant l s o = some true) (hd : dok C.nt o.dst = true) {x : Operand} {t : TypeId} (ho : o.op = .call ⟨.builtin .len, #[x], #[t]⟩) {i : TI} (hi : look T t = some i) {e : TypeId} (hk : i.kd = .sl e) (hx : s.ev x = some .nocap) : LS C l s o (mkFx l s o (.val (.imm (.int .i64 0))) []) :=
  LS.quiet [] hw fun s' hl => OpOK.len_nocap hT hd ho hi hk ((hl.ev x (by rw [ho]; simp [Op.operands, Call.operands])).trans hx)
/-- A call in a region that draws: two blocks are lent, the first one is changed. -/
theorem LS.callG2 (p q : Nat) (hw : awant l s o = some true) {fo : Operand} {args : Array Operand} {ats : Array TypeId} (ho : o.op = .call ⟨.value fo, args, ats⟩) (hd : dok C.nt o.dst = true) {f : Nat} (hfo : s.ev fo = some (.imm (.fn f))) {vs : List AV} (hx : evs s args.toList = some vs)
    {b0 c0 b1 : Blk} {as : List AV} {r : AV} (hc : GenC C.P f [b0, c0] as r [b1, c0]) (hargs : ∀ n, vs = as.map (ren (rho [p, q] n))) (hpq : Nat.beq p q = false) {bp cq : Blk} (hp : nth s.hp p = some bp) (hq : nth s.hp q = some cq) (ep : ∀ n, bp = renB (rho [p, q] n) b0) (eq : ∀ n, cq = renB (rho [p, q] n) c0)
    (hs0 : as.all (AV.sc 2) = true) (hs1 : ([b0, c0].all fun b => b.rows.all fun r => r.all (AV.sc1 2)) = true) (hs2 : r.sc 2 = true) (hs3 : ([b1, c0].all fun b => b.rows.all fun r => r.all (AV.sc1 2)) = true)
    {bA : Blk} (eA : ∀ n, renB (rho [p, q] n) b1 = bA) {r' : AV} (er : ∀ n, ren (rho [p, q] n) r = r') :
    LS C l s o (mkFx l s o (.blk p bA r') [p, q]) :=
  LS.blk [p, q] hw fun s' hl => by
    have hp' := (hl.xb p (by simp)).trans hp
    have hq' := (hl.xb q (by simp)).trans hq
    have h1 : s'.ev fo = some (aFn f []) := (hl.ev fo (call_mem ho).1).trans hfo
    have h2 : evs s' args.toList = some vs := (hl.evs fun x hx => (call_mem ho).2 x hx).trans hx
    have hne : p ≠ q := fun e => by subst e; simp at hpq
    have hnd : nodupB [p, q] = true := by
      simp only [nodupB, memB]
      rw [hpq]
      rfl
    have := OpOK.callG ho hd (s := s') h1 h2 [p, q] hc (by rw [List.append_nil]; exact hargs _) (by simp only [List.map_cons, List.map_nil, hp', hq']; rw [← ep, ← eq]) hnd hs0 hs1 hs2 hs3 (by simp [len])
    simp only [List.map_cons, List.map_nil, eA, er, setAll, len, List.drop_succ_cons, List.drop_zero, List.append_nil] at this
    rw [← eq] at this
    have e3 : (s'.hp.set p bA).set q cq = s'.hp.set p bA := by
      rw [nth_eq] at hq'
      apply List.ext_getElem?
      intro j
      by_cases e : q = j
      · subst e
        rw [List.getElem?_set_self (by rw [List.length_set]; exact (List.getElem?_eq_some_iff.1 hq').1), List.getElem?_set_ne hne, hq']
      · rw [List.getElem?_set_ne e]
    rw [e3] at this
    exact this
theorem isPtr_own {id ver row off : Nat} {b : Blk} (hb : nth s.hp id = some b) (hv : ver = b.rows.length) : isPtr s (.ptr id ver row off) = true := by
  unfold isPtr
  simp only [hb, hv, len_eq]
  simp
theorem LS.nilCheck (hw : awant l s o = some true) (hd : dok C.nt o.dst = true) {x : Operand} (ho : o.op = .nilCheck x) {id ver row off : Nat} (hx : s.ev x = some (.ptr id ver row off)) {b : Blk} (hb : nth s.hp id = some b) (hv : ver = b.rows.length) : LS C l s o (mkFx l s o (.val (.ptr id ver row off)) []) :=
  LS.quiet [] hw fun s' hl => OpOK.nilCheck hd ho ((hl.ev x (by rw [ho]; simp [Op.operands])).trans hx) (isPtr_own ((hl.hp x (by rw [ho]; simp [Op.operands]) _ hx id (by simp [refs])).trans hb) hv)
theorem OpOK.nilCheckO (hd : dok C.nt o.dst = true) {x : Operand} (ho : o.op = .nilCheck x) {id ver row off : Nat} (hx : s.ev x = some (.ptr id ver row off)) {b : Blk} (hb : nth s.hp id = some b) (hv : ver = b.rows.length) : OpOK C s o (s.put o.dst (.ptr id ver row off)) := OpOK.nilCheck hd ho hx (isPtr_own hb hv)
theorem OpOK.fieldAddrO (hT : TsOK C.P T) (hd : dok C.nt o.dst = true) {t : TypeId} {x : Operand} {f : Nat} (ho : o.op = .fieldAddr t x f) {i : TI} (hi : look T t = some i) (ha : i.isAgg = true) {off n : Nat} {g : Bool} (hf : nth i.flds f = some (off, n, g)) (hn : Nat.beq n 0 = false)
    {id ver row o' : Nat} (hx : s.ev x = some (.ptr id ver row o')) {b : Blk} (hb : nth s.hp id = some b) (hver : ver = b.rows.length) : OpOK C s o (s.put o.dst (.ptr id ver row (o' + off))) :=
  OpOK.fieldAddr_own hT hd ho hi ha hf (fun e => by subst e; simp at hn) hx (by rw [← nth_eq]; exact hb) hver
theorem LS.fieldAddr (hT : TsOK C.P T) (hw : awant l s o = some true) (hd : dok C.nt o.dst = true) {t : TypeId} {x : Operand} {f : Nat} (ho : o.op = .fieldAddr t x f) {i : TI} (hi : look T t = some i) (ha : i.isAgg = true) {off n : Nat} {g : Bool} (hf : nth i.flds f = some (off, n, g)) (hn : Nat.beq n 0 = false)
    {id ver row o' : Nat} (hx : s.ev x = some (.ptr id ver row o')) {b : Blk} (hb : nth s.hp id = some b) (hver : ver = b.rows.length) : LS C l s o (mkFx l s o (.val (.ptr id ver row (o' + off))) []) :=
  LS.quiet [] hw fun s' hl => OpOK.fieldAddrO hT hd ho hi ha hf hn ((hl.ev x (by rw [ho]; simp [Op.operands])).trans hx) ((hl.hp x (by rw [ho]; simp [Op.operands]) _ hx id (by simp [refs])).trans hb) hver
end
end Go.Proofs.YteijifoobaoclaaGreat.A
