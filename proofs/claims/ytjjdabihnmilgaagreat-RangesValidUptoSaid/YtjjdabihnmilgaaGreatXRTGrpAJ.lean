/- The abstract walk, part Zc: lists of lists that become values; more of own lists. -/
import Derived.Test.YtjjdabihnmilgaaGreatXRTGrpAI
namespace Go.Proofs.YtjjdabihnmilgaaGreat.A
open Go.RowKit
set_option linter.unusedVariables false
set_option linter.unusedSimpArgs false
section
variable {C : Cx} {s t : St} {γ : Nat → Option Nat} {κ : Nat → Nat} {a : Act} {W : World} {o : Oper} {T : List (Nat × TI)} {l r rest : List Oper} {Q : Exit → St → Prop}
def FzI (C : Cx) (s : St) (c : AV) (v : IV) : Prop := ∀ γ κ a W x, Conc C s γ κ a W → RepA (s.mm C γ κ W) c x → RepI W C.X v x
theorem FzI.imm (v : IV) : FzI C s (.imm v) v := fun γ κ a W x hC h => by
  cases h with
  | imm _ _ h => exact h.keep fun b hb _ => ⟨rfl, fun hx => hb (.inl hx)⟩
theorem FzI.of {c : AV} {v : IV} (h : Fz C s c (.imm v)) : FzI C s c v := fun γ κ a W x hC hx => by
  have := h γ κ a W x hC hx
  cases this with
  | imm _ _ h => exact h
theorem Fz.osN {id n : Nat} {b : Blk} (hb : nth s.hp id = some b) (hver : n = b.rows.length) {rows : List (List IV)} (hlen : b.rows.length = rows.length) (hrl : ∀ r ∈ rows, r.length = b.sz) (hr : All2 (FzI C s) b.rows.flatten rows.flatten) : Fz C s (.os id n) (.imm (.sl rows)) := by
  intro γ κ a W x hC hx
  rw [nth_eq] at hb
  have hB := hC.blk id b hb
  have e := hx.os_val hb hver
  subst e
  rcases hB.mem with ⟨h1, h2, h3⟩ | ⟨g, ys, sp, h1, h2, h3, h4⟩
  · have : rows = [] := by
      rw [h2] at hlen
      exact List.length_eq_zero_iff.1 hlen.symm
    subst this
    have hn0 : n = 0 := by rw [hver, h2]; rfl
    subst hn0
    exact .imm _ _ (.nil _ _)
  · by_cases hne : rows = []
    · subst hne
      have hn0 : n = 0 := by rw [hver, hlen]; rfl
      subst hn0
      exact .imm _ _ (.nil _ _)
    · rw [h1]
      refine .imm _ _ (.sl rows ⟨g, 0, none⟩ n _ b.sz ys hne hB.pos (by rw [hver, hlen]) (by rw [hver]; exact hB.cap) ?_ hrl ?_ ?_)
      · have hid : id < s.hp.length := (List.getElem?_eq_some_iff.1 hb).1
        exact (hC.own id g hid h1).1
      · intro j y hj
        have e : (⟨g, 0, none⟩ : Addr).add j = ⟨g, 0 + j, none⟩ := by unfold Addr.add; split <;> simp_all
        have h2' : W.heap[g]? = some (.cells (ys ++ sp).toArray b.ty (0, 0)) := h2
        show W.cell? _ = _
        rw [e, blk_cell h2']
        simp only [List.getElem?_toArray, Nat.zero_add]
        rw [List.getElem?_append_left (List.getElem?_eq_some_iff.1 hj).1]; exact hj
      · have key : ∀ {l : List AV} {m : List IV} (_ : All2 (FzI C s) l m) {ys : List Value}, All2 (RepA (s.mm C γ κ W)) l ys → All2 (RepI W C.X) m ys := by
          intro l m h
          induction h with
          | nil => intro ys h; cases h; exact .nil
          | cons h1 _ ih =>
            intro ys h
            cases h with
            | cons h2 h3 => exact .cons (h1 _ _ _ _ _ hC h2) (ih h3)
        exact key hr h4
theorem all2_flat {α β : Type} {R : α → β → Prop} {l : List (List α)} {m : List (List β)} (h : All2 (All2 R) l m) : All2 R l.flatten m.flatten := by
  induction h with
  | nil => exact .nil
  | cons h1 _ ih => exact h1.append ih
theorem all2_map_both {α β γ : Type} {R : β → γ → Prop} {f : α → β} {g : α → γ} (h : ∀ x, R (f x) (g x)) : ∀ l : List α, All2 R (l.map f) (l.map g)
  | [] => .nil
  | x :: l => .cons (h x) (all2_map_both h l)
theorem isPtr_own {id ver row off : Nat} {b : Blk} (hb : nth s.hp id = some b) (hv : ver = b.rows.length) : isPtr s (.ptr id ver row off) = true := by
  unfold isPtr
  simp only [hb, hv, len_eq]
  simp
theorem LS.nilCheck (hw : awant l s o = some true) (hd : dok C.nt o.dst = true) {x : Operand} (ho : o.op = .nilCheck x) {id ver row off : Nat} (hx : s.ev x = some (.ptr id ver row off)) {b : Blk} (hb : nth s.hp id = some b) (hv : ver = b.rows.length) : LS C l s o (mkFx l s o (.val (.ptr id ver row off)) []) :=
  LS.quiet [] hw fun s' hl => OpOK.nilCheck hd ho ((hl.ev x (by rw [ho]; simp [Op.operands])).trans hx) (isPtr_own ((hl.hp x (by rw [ho]; simp [Op.operands]) _ hx id (by simp [refs])).trans hb) hv)
theorem OpOK.nilCheckO (hd : dok C.nt o.dst = true) {x : Operand} (ho : o.op = .nilCheck x) {id ver row off : Nat} (hx : s.ev x = some (.ptr id ver row off)) {b : Blk} (hb : nth s.hp id = some b) (hv : ver = b.rows.length) : OpOK C s o (s.put o.dst (.ptr id ver row off)) := OpOK.nilCheck hd ho hx (isPtr_own hb hv)
theorem OpOK.fieldAddrO (hT : TsOK C.P T) (hd : dok C.nt o.dst = true) {t : TypeId} {x : Operand} {f : Nat} (ho : o.op = .fieldAddr t x f) {i : TI} (hi : look T t = some i) (ha : i.isAgg = true) {off n : Nat} {g : Bool} (hf : nth i.flds f = some (off, n, g)) (hn : Nat.beq n 0 = false)
    {id ver row o' : Nat} (hx : s.ev x = some (.ptr id ver row o')) {b : Blk} (hb : nth s.hp id = some b) (hver : ver = b.rows.length) : OpOK C s o (s.put o.dst (.ptr id ver row (o' + off))) :=
  OpOK.fieldAddr_own hT hd ho hi ha hf (fun e => by subst e; simp at hn) hx (by rw [← nth_eq]; exact hb) hver
theorem LS.fieldAddr (hT : TsOK C.P T) (hw : awant l s o = some true) (hd : dok C.nt o.dst = true) {t : TypeId} {x : Operand} {f : Nat} (ho : o.op = .fieldAddr t x f) {i : TI} (hi : look T t = some i) (ha : i.isAgg = true) {off n : Nat} {g : Bool} (hf : nth i.flds f = some (off, n, g)) (hn : Nat.beq n 0 = false)
    {id ver row o' : Nat} (hx : s.ev x = some (.ptr id ver row o')) {b : Blk} (hb : nth s.hp id = some b) (hver : ver = b.rows.length) : LS C l s o (mkFx l s o (.val (.ptr id ver row (o' + off))) []) :=
  LS.quiet [] hw fun s' hl => OpOK.fieldAddrO hT hd ho hi ha hf hn ((hl.ev x (by rw [ho]; simp [Op.operands])).trans hx) ((hl.hp x (by rw [ho]; simp [Op.operands]) _ hx id (by simp [refs])).trans hb) hver
end
end Go.Proofs.YtjjdabihnmilgaaGreat.A
namespace Go.Proofs.YtjjdabihnmilgaaGreat.A.M2
open Go.RowKit
set_option linter.unusedVariables false
set_option linter.unusedSimpArgs false
/-- What an operation does to the state: it may write several blocks. -/
inductive Dl where
  | val (v : AV)
  | wr (l : List (Nat × Blk)) (v : AV)
def setL : List Blk → List (Nat × Blk) → List Blk
  | h, [] => h
  | h, (p, b) :: l => setL (h.set p b) l
theorem setL_len : ∀ (l : List (Nat × Blk)) (h : List Blk), (setL h l).length = h.length
  | [], h => rfl
  | (p, b) :: l, h => by simp [setL, setL_len l]
theorem setL_other (p : Nat) : ∀ (l : List (Nat × Blk)) (h : List Blk), p ∉ l.map (·.1) → (setL h l)[p]? = h[p]?
  | [], h, _ => rfl
  | (q, b) :: l, h, hp => by
    simp only [List.map_cons, List.mem_cons, not_or] at hp
    simp only [setL]
    rw [setL_other p l _ hp.2, List.getElem?_set_ne (fun e => hp.1 e.symm)]
theorem setL_at (p : Nat) : ∀ (l : List (Nat × Blk)) (h h' : List Blk), h.length = h'.length → p ∈ l.map (·.1) → (setL h l)[p]? = (setL h' l)[p]?
  | [], h, h', _, hp => by simp at hp
  | (q, b) :: l, h, h', hl, hp => by
    simp only [setL]
    by_cases e : p ∈ l.map (·.1)
    · exact setL_at p l _ _ (by simp [hl]) e
    · have : p = q := by simpa [e] using hp
      subst this
      rw [setL_other p l _ e, setL_other p l _ e]
      by_cases hq : p < h.length
      · rw [List.getElem?_set_self hq, List.getElem?_set_self (by omega)]
      · rw [List.getElem?_eq_none (by simp; omega), List.getElem?_eq_none (by simp; omega)]
theorem setL_comm {l m : List (Nat × Blk)} (h : List Blk) (hd : ∀ p, p ∈ l.map (·.1) → p ∉ m.map (·.1)) : setL (setL h l) m = setL (setL h m) l := by
  apply List.ext_getElem?
  intro p
  by_cases hp : p ∈ l.map (·.1)
  · rw [setL_other p m _ (hd p hp), setL_at p l (setL h m) h (by rw [setL_len]) hp]
  · rw [setL_other p l (setL h m) hp]
    by_cases hq : p ∈ m.map (·.1)
    · exact setL_at p m _ _ (by rw [setL_len]) hq
    · rw [setL_other p m _ hq, setL_other p l _ hp, setL_other p m _ hq]
def Dl.ap (d : Dl) (dst : Option Nat) (s : St) : St :=
  match d with
  | .val v => s.put dst v
  | .wr l v => (match s with
    | ⟨e, h⟩ => St.put ⟨e, setL h l⟩ dst v)
def Dl.wb : Dl → List Nat
  | .val _ => []
  | .wr l _ => l.map (·.1)
structure Fx where
  dst : Option Nat
  d : Dl
  rs : List Nat
  rb : List Nat
def Fx.ap (f : Fx) (s : St) : St := f.d.ap f.dst s
/-- The state where those of L are done, in the text's order. -/
def runL (L : Nat → Bool) : Nat → List Fx → St → St
  | _, [], s => s
  | i, f :: r, s => runL L (i + 1) r (match L i with | true => f.ap s | false => s)
theorem put_env (s : St) (dst : Option Nat) (v : AV) (t : Nat) (h : dst ≠ some t) : get (s.put dst v).env t = get s.env t := by
  obtain ⟨e, h1⟩ := s
  cases dst with
  | none => rfl
  | some d =>
    show get ((d, v) :: e) t = _
    simp only [get]
    split
    · rename_i hb
      have := Nat.eq_of_beq_eq_true hb
      subst this
      exact absurd rfl h
    · rfl
theorem put_hp (s : St) (dst : Option Nat) (v : AV) : (s.put dst v).hp = s.hp := by
  obtain ⟨e, h1⟩ := s
  cases dst <;> rfl
theorem ap_env (f : Fx) (s : St) (t : Nat) (h : f.dst ≠ some t) : get (f.ap s).env t = get s.env t := by
  unfold Fx.ap Dl.ap
  split
  · exact put_env s _ _ t h
  · obtain ⟨e, h1⟩ := s
    exact put_env _ _ _ t h
theorem ap_hp (f : Fx) (s : St) (p : Nat) (h : p ∉ f.d.wb) : (f.ap s).hp[p]? = s.hp[p]? := by
  unfold Fx.ap Dl.ap
  split
  · rw [put_hp]
  · rename_i l v hd
    rw [hd] at h
    obtain ⟨e, h1⟩ := s
    simp only
    rw [put_hp]
    simp only
    exact setL_other p l h1 h
theorem ap_len (f : Fx) (s : St) : (f.ap s).hp.length = s.hp.length := by
  unfold Fx.ap Dl.ap
  split
  · rw [put_hp]
  · obtain ⟨e, h1⟩ := s
    simp only
    rw [put_hp]
    simp [setL_len]
/-- The same to every look. -/
structure Sm (s t : St) : Prop where
  env : ∀ x, get s.env x = get t.env x
  hp : s.hp = t.hp
theorem Sm.refl (s : St) : Sm s s := ⟨fun _ => rfl, rfl⟩
theorem Sm.trans {a b c : St} (h : Sm a b) (k : Sm b c) : Sm a c := ⟨fun x => (h.env x).trans (k.env x), h.hp.trans k.hp⟩
theorem Sm.put {s t : St} (h : Sm s t) (dst : Option Nat) (v : AV) : Sm (s.put dst v) (t.put dst v) := by
  obtain ⟨e, h1⟩ := s
  obtain ⟨e2, h2⟩ := t
  cases dst with
  | none => exact h
  | some d =>
    refine ⟨fun x => ?_, h.hp⟩
    show get ((d, v) :: e) x = get ((d, v) :: e2) x
    simp only [get]
    split
    · rfl
    · exact h.env x
theorem Sm.ap {s t : St} (h : Sm s t) (f : Fx) : Sm (f.ap s) (f.ap t) := by
  unfold Fx.ap Dl.ap
  split
  · exact h.put _ _
  · obtain ⟨e, h1⟩ := s
    obtain ⟨e2, h2⟩ := t
    have hh : h1 = h2 := h.hp
    subst hh
    rename_i q v _
    exact Sm.put (s := ⟨e, setL h1 q⟩) (t := ⟨e2, setL h1 q⟩) ⟨h.env, rfl⟩ f.dst v
theorem Sm.conc {C : Cx} {s t : St} (h : Sm s t) {γ κ a W} (hC : Conc C s γ κ a W) : Conc C t γ κ a W :=
  hC.sub_env h.hp.symm fun x v hx => hC.env x v ((h.env x).trans hx)
/-- Two that write apart. -/
theorem ap_comm {f g : Fx} (h1 : ∀ d, f.dst = some d → g.dst ≠ some d) (h2 : ∀ p, p ∈ f.d.wb → p ∉ g.d.wb) (s : St) : Sm (f.ap (g.ap s)) (g.ap (f.ap s)) := by
  have hp : (f.ap (g.ap s)).hp = (g.ap (f.ap s)).hp := by
    obtain ⟨e, h⟩ := s
    obtain ⟨fd, fδ, _, _⟩ := f
    obtain ⟨gd, gδ, _, _⟩ := g
    unfold Fx.ap Dl.ap
    cases fδ with
    | val v => cases gδ with
      | val u => simp only [put_hp]
      | wr q u => cases fd <;> cases gd <;> rfl
    | wr p v => cases gδ with
      | val u => cases fd <;> cases gd <;> rfl
      | wr q u =>
        cases fd <;> cases gd <;> exact (setL_comm h h2).symm
  refine ⟨fun x => ?_, hp⟩
  by_cases e1 : f.dst = some x
  · have e2 := h1 x e1
    rw [ap_env g _ x e2]
    have key : ∀ s1 s2 : St, get (f.ap s1).env x = get (f.ap s2).env x := by
      intro s1 s2
      obtain ⟨a1, b1⟩ := s1
      obtain ⟨a2, b2⟩ := s2
      unfold Fx.ap Dl.ap
      cases f.d <;> simp only [e1, St.put, get, Nat.beq_refl]
    exact key _ _
  · rw [ap_env f _ x e1]
    by_cases e2 : g.dst = some x
    · have key : ∀ s1 s2 : St, get (g.ap s1).env x = get (g.ap s2).env x := by
        intro s1 s2
        obtain ⟨a1, b1⟩ := s1
        obtain ⟨a2, b2⟩ := s2
        unfold Fx.ap Dl.ap
        cases g.d <;> simp only [e2, St.put, get, Nat.beq_refl]
      exact key _ _
    · rw [ap_env g _ x e2, ap_env g _ x e2, ap_env f _ x e1]
theorem runL_sm (L : Nat → Bool) : ∀ (l : List Fx) (i : Nat) {s t : St}, Sm s t → Sm (runL L i l s) (runL L i l t)
  | [], i, s, t, h => h
  | f :: r, i, s, t, h => by
    simp only [runL]
    cases L i with
    | true => exact runL_sm L r (i + 1) (h.ap f)
    | false => exact runL_sm L r (i + 1) h
theorem runL_len (L : Nat → Bool) : ∀ (l : List Fx) (i : Nat) (s : St), (runL L i l s).hp.length = s.hp.length
  | [], i, s => rfl
  | f :: r, i, s => by
    simp only [runL]
    rw [runL_len L r (i + 1)]
    cases L i with
    | true => exact ap_len f s
    | false => rfl
/-- A place that nobody of those in which L and L' part writes. -/
theorem runL_env (L L' : Nat → Bool) (x : Nat) : ∀ (l : List Fx) (i : Nat) (s t : St), get s.env x = get t.env x → (∀ j f, l[j]? = some f → L (i + j) ≠ L' (i + j) → f.dst ≠ some x) → get (runL L i l s).env x = get (runL L' i l t).env x
  | [], i, s, t, h, _ => h
  | f :: r, i, s, t, h, hx => by
    simp only [runL]
    refine runL_env L L' x r (i + 1) _ _ ?_ fun j g hj hne => hx (j + 1) g (by simpa using hj) (by rw [show i + (j + 1) = i + 1 + j by omega]; exact hne)
    have h0 := hx 0 f rfl
    simp only [Nat.add_zero] at h0
    cases e1 : L i <;> cases e2 : L' i
    · exact h
    · simp only; rw [ap_env f t x (h0 (by rw [e1, e2]; simp))]; exact h
    · simp only; rw [ap_env f s x (h0 (by rw [e1, e2]; simp))]; exact h
    · simp only
      by_cases hd : f.dst = some x
      · obtain ⟨a1, b1⟩ := s
        obtain ⟨a2, b2⟩ := t
        unfold Fx.ap Dl.ap
        cases f.d <;> simp only [hd, St.put, get, Nat.beq_refl]
      · rw [ap_env f s x hd, ap_env f t x hd]; exact h
theorem runL_hp (L L' : Nat → Bool) (p : Nat) : ∀ (l : List Fx) (i : Nat) (s t : St), s.hp.length = t.hp.length → s.hp[p]? = t.hp[p]? → (∀ j f, l[j]? = some f → L (i + j) ≠ L' (i + j) → p ∉ f.d.wb) → (runL L i l s).hp[p]? = (runL L' i l t).hp[p]?
  | [], i, s, t, _, h, _ => h
  | f :: r, i, s, t, hl, h, hx => by
    simp only [runL]
    refine runL_hp L L' p r (i + 1) _ _ ?_ ?_ fun j g hj hne => hx (j + 1) g (by simpa using hj) (by rw [show i + (j + 1) = i + 1 + j by omega]; exact hne)
    · cases L i <;> cases L' i <;> simp [ap_len, hl]
    have h0 := hx 0 f rfl
    simp only [Nat.add_zero] at h0
    cases e1 : L i <;> cases e2 : L' i
    · exact h
    · simp only; rw [ap_hp f t p (h0 (by rw [e1, e2]; simp))]; exact h
    · simp only; rw [ap_hp f s p (h0 (by rw [e1, e2]; simp))]; exact h
    · simp only
      by_cases hd : p ∈ f.d.wb
      · obtain ⟨a1, b1⟩ := s
        obtain ⟨a2, b2⟩ := t
        unfold Fx.ap Dl.ap
        cases hf : f.d with
        | val v => rw [hf] at hd; cases hd
        | wr q v =>
          rw [hf] at hd
          have hl' : b1.length = b2.length := hl
          simp only [put_hp]
          exact setL_at p q b1 b2 hl' hd
      · rw [ap_hp f s p hd, ap_hp f t p hd]; exact h
/-- One more of L, behind the others. -/
theorem runL_add (L : Nat → Bool) (k : Nat) : ∀ (l : List Fx) (i : Nat) (s : St) (g : Fx), i ≤ k → L k = false → l[k - i]? = some g →
    (∀ j f, l[j]? = some f → k < i + j → L (i + j) = true → (∀ d, g.dst = some d → f.dst ≠ some d) ∧ (∀ p, p ∈ g.d.wb → p ∉ f.d.wb)) →
    Sm (g.ap (runL L i l s)) (runL (fun j => if j = k then true else L j) i l s)
  | [], i, s, g, hik, hk, hg, _ => by simp at hg
  | f :: r, i, s, g, hik, hk, hg, hx => by
    simp only [runL]
    by_cases e : i = k
    · subst e
      simp at hg
      subst hg
      simp only [hk, if_true]
      -- behind i, L and L' are one; f goes ahead of all
      have key : ∀ (q : List Fx) (m : Nat) (s : St), i < m → (∀ j h, q[j]? = some h → L (m + j) = true → (∀ d, f.dst = some d → h.dst ≠ some d) ∧ (∀ p, p ∈ f.d.wb → p ∉ h.d.wb)) → Sm (f.ap (runL L m q s)) (runL (fun j => if j = i then true else L j) m q (f.ap s)) := by
        intro q
        induction q with
        | nil => intro m s hm _; exact Sm.refl _
        | cons h q ih =>
          intro m s hm hq
          simp only [runL]
          rw [if_neg (by omega)]
          have h0 := hq 0 h rfl
          simp only [Nat.add_zero] at h0
          have hq' : ∀ j g, q[j]? = some g → L (m + 1 + j) = true → (∀ d, f.dst = some d → g.dst ≠ some d) ∧ (∀ p, p ∈ f.d.wb → p ∉ g.d.wb) :=
            fun j g hj hl => hq (j + 1) g (by simpa using hj) (by rw [show m + (j + 1) = m + 1 + j by omega]; exact hl)
          cases hL : L m with
          | false => exact ih (m + 1) s (by omega) hq'
          | true =>
            obtain ⟨c1, c2⟩ := h0 hL
            refine (ih (m + 1) (h.ap s) (by omega) hq').trans (runL_sm _ q (m + 1) ?_)
            exact ap_comm c1 c2 s
      exact key r (i + 1) s (by omega) fun j h hj hl => hx (j + 1) h (by simpa using hj) (by omega) (by rw [show i + (j + 1) = i + 1 + j by omega]; exact hl)
    · rw [if_neg e]
      refine runL_add L k r (i + 1) _ g (by omega) hk ?_ fun j h hj hlt hl => hx (j + 1) h (by simpa using hj) (by omega) (by rw [show i + (j + 1) = i + 1 + j by omega]; exact hl)
      rw [show k - i = (k - (i + 1)) + 1 by omega, List.getElem?_cons_succ] at hg
      exact hg
-- who comes ahead of whom
def ons (o : Oper) : List Nat := o.after.toList.filterMap fun e => match Region.binds .any e with | true => some e.on | false => none
def memB (x : Nat) : List Nat → Bool
  | [] => false
  | y :: l => match Nat.beq x y with
    | true => true
    | false => memB x l
theorem memB_iff (x : Nat) : ∀ l, memB x l = true ↔ x ∈ l
  | [] => by simp [memB]
  | y :: l => by
    simp only [memB]
    split
    · rename_i h; have := Nat.eq_of_beq_eq_true h; simp [this]
    · rename_i h
      have : x ≠ y := fun e => by subst e; simp at h
      rw [memB_iff x l]; simp [this]
/-- All that come ahead, of each operation. -/
def anc : List Oper → List (List Nat) → List (List Nat)
  | [], acc => acc
  | o :: r, acc => anc r (acc ++ [(ons o).flatMap fun j => j :: acc.getD j []])
theorem anc_get : ∀ (l : List Oper) (acc : List (List Nat)) (i : Nat), (i < acc.length → (anc l acc)[i]? = acc[i]?) ∧ (anc l acc).length = acc.length + l.length
  | [], acc, i => ⟨fun _ => rfl, by simp [anc]⟩
  | o :: r, acc, i => by
    obtain ⟨h1, h2⟩ := anc_get r (acc ++ [(ons o).flatMap fun j => j :: acc.getD j []]) i
    refine ⟨fun hi => ?_, by simp only [anc, h2, List.length_append, List.length_cons, List.length_nil]; omega⟩
    simp only [anc]
    rw [h1 (by simp; omega), List.getElem?_append_left hi]
/-- A set that holds with each operation all that it waits for holds all its ancestors. -/
theorem anc_closed (L : Nat → Bool) : ∀ (l : List Oper) (acc : List (List Nat)) (pre : List Oper), pre.length = acc.length →
    (∀ i o, (pre ++ l)[i]? = some o → L i = true → ∀ j ∈ ons o, L j = true) →
    (∀ i a, acc[i]? = some a → L i = true → ∀ j ∈ a, L j = true) →
    ∀ i a, (anc l acc)[i]? = some a → L i = true → ∀ j ∈ a, L j = true
  | [], acc, pre, hl, hc, ha, i, a, h => ha i a h
  | o :: r, acc, pre, hl, hc, ha, i, a, h => by
    simp only [anc] at h
    refine anc_closed L r _ (pre ++ [o]) (by simp [hl]) (by simpa using hc) ?_ i a h
    intro k b hb hL j hj
    rcases Nat.lt_or_ge k acc.length with hk | hk
    · rw [List.getElem?_append_left hk] at hb
      exact ha k b hb hL j hj
    · rw [List.getElem?_append_right hk] at hb
      have hk' : k = acc.length := by
        rcases Nat.eq_or_lt_of_le hk with e | e
        · exact e.symm
        · rw [List.getElem?_eq_none (by simp; omega)] at hb; cases hb
      subst hk'
      simp at hb
      subst hb
      obtain ⟨m, hm, hj⟩ := List.mem_flatMap.1 hj
      have hLm := hc acc.length o (by rw [← hl, List.getElem?_append_right (Nat.le_refl _)]; simp) hL m hm
      rcases List.mem_cons.1 hj with e | e
      · rw [e]; exact hLm
      · try rw [List.getD_eq_getElem?_getD] at e
        cases hq : acc[m]? with
        | none => rw [hq] at e; simp at e
        | some q => rw [hq] at e; exact ha m q hq hLm j e
def disj (a b : List Nat) : Bool := a.all fun x => !memB x b
theorem disj_spec {a b : List Nat} (h : disj a b = true) {x : Nat} (hx : x ∈ a) : x ∉ b := by
  have := List.all_eq_true.1 h x hx
  simp at this
  intro hb
  rw [(memB_iff x b).2 hb] at this
  cases this
/-- Two operations, the second behind the first in the text: it waits for the first, or they have nothing to do with one another. -/
def pairOK (f g : Fx) : Bool := disj f.dst.toList (g.rs ++ g.dst.toList) && disj f.rs g.dst.toList && disj f.d.wb (g.rb ++ g.d.wb) && disj f.rb g.d.wb
def allOK : List Fx → List (List Nat) → Nat → List (Nat × Fx) → Bool
  | [], _, _, _ => true
  | g :: r, an, i, pre => (match an with
    | [] => false
    | a :: an => pre.all (fun q => memB q.1 a || pairOK q.2 g) && allOK r an (i + 1) (pre ++ [(i, g)]))
theorem allOK_spec : ∀ (l : List Fx) (an : List (List Nat)) (i : Nat) (pre : List (Nat × Fx)), allOK l an i pre = true → (∀ j g a, l[j]? = some g → an[j]? = some a → (∀ q ∈ pre, q.1 ∈ a ∨ pairOK q.2 g = true) ∧ ∀ k f, l[k]? = some f → k < j → (i + k) ∈ a ∨ pairOK f g = true)
  | [], an, i, pre, h, j, g, a, hg, ha => by simp at hg
  | g0 :: r, [], i, pre, h, j, g, a, hg, ha => by cases h
  | g0 :: r, a0 :: an, i, pre, h, j, g, a, hg, ha => by
    simp only [allOK, Bool.and_eq_true, List.all_eq_true, Bool.or_eq_true] at h
    obtain ⟨h1, h2⟩ := h
    cases j with
    | zero =>
      simp at hg ha
      subst hg ha
      exact ⟨fun q hq => (h1 q hq).imp (memB_iff _ _).1 id, fun k f _ hk => by omega⟩
    | succ j =>
      obtain ⟨k1, k2⟩ := allOK_spec r an (i + 1) (pre ++ [(i, g0)]) h2 j g a (by simpa using hg) (by simpa using ha)
      refine ⟨fun q hq => k1 q (by simp [hq]), fun k f hf hk => ?_⟩
      cases k with
      | zero =>
        simp at hf
        subst hf
        exact k1 (i, g0) (by simp)
      | succ k =>
        have := k2 k f (by simpa using hf) (by omega)
        rw [show i + (k + 1) = i + 1 + k by omega]
        exact this
section
variable {C : Cx} {Q : Exit → St → Prop} {l : List Oper}
/-- What an operation does, wherever what it looks at is as in s. -/
def LS (C : Cx) (l : List Oper) (s : St) (o : Oper) (f : Fx) : Prop :=
  f.dst = o.dst ∧ ∀ s', (∀ t ∈ f.rs, get s'.env t = get s.env t) → (∀ p ∈ f.rb, s'.hp[p]? = s.hp[p]?) → s'.hp.length = s.hp.length →
    (awant l s' o = some true ∧ OpOK C s' o (f.ap s')) ∨ (awant l s' o = some false ∧ dok C.nt o.dst = true ∧ f.d = .val .undef)
/-- The walk in the text's order. -/
inductive DW (C : Cx) (l : List Oper) : List Oper → St → List Fx → St → Prop
  | nil (s : St) : DW C l [] s [] s
  | cons {o : Oper} {r : List Oper} {s s2 : St} {f : Fx} {fs : List Fx} (h1 : LS C l s o f) (h2 : DW C l r (f.ap s) fs s2) : DW C l (o :: r) s (f :: fs) s2
theorem DW.len {r : List Oper} {s s2 : St} {fs : List Fx} (h : DW C l r s fs s2) : r.length = fs.length := by
  induction h with
  | nil s => rfl
  | cons _ _ ih => simp [ih]
theorem DW.fin {r : List Oper} {s s2 : St} {fs : List Fx} (h : DW C l r s fs s2) : ∀ i L, (∀ j, i ≤ j → j < i + fs.length → L j = true) → runL L i fs s = s2 := by
  induction h with
  | nil s => intro i L _; rfl
  | @cons o r s s2 f fs h1 h2 ih =>
    intro i L hL
    simp only [runL]
    rw [hL i (Nat.le_refl _) (by simp)]
    exact ih (i + 1) L fun j h1 h2 => hL j (by omega) (by simp; omega)
theorem DW.at {r : List Oper} {s s2 : St} {fs : List Fx} (h : DW C l r s fs s2) : ∀ (i k : Nat) (o : Oper) (f : Fx), r[k]? = some o → fs[k]? = some f → LS C l (runL (fun j => decide (j < i + k)) i fs s) o f := by
  induction h with
  | nil s => intro i k o f h; simp at h
  | @cons o r s s2 f fs h1 h2 ih =>
    intro i k o' f' ho hf
    simp only [runL]
    cases k with
    | zero =>
      simp at ho hf
      subst ho hf
      have : ∀ (q : List Fx) (m : Nat) (s : St), i ≤ m → runL (fun j => decide (j < i + 0)) m q s = s := by
        intro q
        induction q with
        | nil => intro m s _; rfl
        | cons g q ih =>
          intro m s hm
          simp only [runL]
          rw [decide_eq_false (by omega)]
          exact ih (m + 1) s (by omega)
      rw [decide_eq_false (by omega), this fs (i + 1) s (by omega)]
      exact h1
    | succ k =>
      rw [decide_eq_true (by omega)]
      have := ih (i + 1) k o' f' (by simpa using ho) (by simpa using hf)
      rw [show i + (k + 1) = i + 1 + k by omega]
      exact this
def backOK : List Oper → Nat → Bool
  | [], _ => true
  | o :: r, i => (ons o).all (fun j => Nat.blt j i) && backOK r (i + 1)
theorem backOK_spec : ∀ (l : List Oper) (i : Nat), backOK l i = true → ∀ k o, l[k]? = some o → ∀ j ∈ ons o, j < i + k
  | [], i, h, k, o, ho => by simp at ho
  | q :: r, i, h, k, o, ho => by
    simp only [backOK, Bool.and_eq_true, List.all_eq_true, Nat.blt_eq] at h
    cases k with
    | zero => simp at ho; subst ho; intro j hj; have := h.1 j hj; omega
    | succ k =>
      intro j hj
      have := backOK_spec r (i + 1) h.2 k o (by simpa using ho) j hj
      omega
theorem count_list : ∀ (l : List Bool) (i n : Nat) (hi : i < l.length), l[i] = false → (l.filter (! ·)).length = n + 1 → ((l.set i true).filter (! ·)).length = n
  | [], i, n, hi, _, _ => by simp at hi
  | b :: l, 0, n, hi, h', hn => by
    simp at h'
    subst h'
    simp at hn ⊢
    exact hn
  | b :: l, i + 1, n, hi, h', hn => by
    have hi' : i < l.length := by simpa using hi
    have h'' : l[i] = false := by simpa using h'
    simp only [List.set_cons_succ]
    cases b with
    | true =>
      simp at hn ⊢
      exact count_list l i n hi' h'' hn
    | false =>
      simp at hn
      have hpos : ∃ m, n = m + 1 := by
        cases n with
        | zero =>
          exfalso
          have hnil : l.filter (! ·) = [] := List.length_eq_zero_iff.1 (by simpa using hn)
          rw [List.filter_eq_nil_iff] at hnil
          have := hnil (l[i]'hi') (by simp)
          rw [h''] at this
          simp at this
        | succ m => exact ⟨m, rfl⟩
      obtain ⟨m, rfl⟩ := hpos
      have := count_list l i m hi' h'' hn
      simp
      exact this
theorem count_set {a : Array Bool} {i : Nat} (hi : i < a.size) (h : a[i] = false) {n : Nat} (hn : (a.toList.filter (! ·)).length = n + 1) : ((a.setIfInBounds i true).toList.filter (! ·)).length = n := by
  rw [Array.toList_setIfInBounds]
  exact count_list a.toList i n (by simpa using hi) (by simpa using h) hn
theorem getD_set {a : Array Bool} {i : Nat} (hi : i < a.size) (j : Nat) : (a.setIfInBounds i true).getD j false = if j = i then true else a.getD j false := by
  rw [Array.getD_eq_getD_getElem?, Array.getD_eq_getD_getElem?]
  by_cases e : j = i
  · subst e
    rw [Array.getElem?_setIfInBounds_self_of_lt hi, if_pos rfl]; rfl
  · rw [Array.getElem?_setIfInBounds_ne (fun h => e h.symm), if_neg e]
theorem AW.draw (hm : C.P.follows .mixedOrders = true) {id : Nat} {s s2 : St} {fs : List Fx} (hw : DW C l l s fs s2) (hback : backOK l 0 = true) (hok : allOK fs (anc l []) 0 [] = true) (hQ : Q .normal s2) : AW C (.region id l.toArray true) Q s := by
  intro γ κ a W hC
  refine wp_region_any hm ?_
  have hn := hw.len
  have hback' := backOK_spec l 0 hback
  have hpair := allOK_spec fs (anc l []) 0 [] hok
  have hal : (anc l []).length = l.length := by simpa using (anc_get l [] 0).2
  have hC0 : Conc C s γ κ a { W with drawn := W.drawn + 1 } := by
    have hb : Below W.heap.size W { W with drawn := W.drawn + 1 } := ⟨rfl, rfl, rfl, Nat.le_refl _, fun _ _ => rfl⟩
    exact hC.below hb
  have key : ∀ (fuel : Nat) (listed : Array Bool) (γ : Nat → Option Nat) (κ : Nat → Nat) (a : Act) (W : World), listed.size = l.length → (listed.toList.filter (! ·)).length = fuel →
      (∀ i o, l[i]? = some o → listed.getD i false = true → ∀ j ∈ ons o, listed.getD j false = true) →
      Conc C (runL (fun i => listed.getD i false) 0 fs s) γ κ a W → wpAny C.P .any l.toArray (CQ C Q) fuel listed a W := by
    intro fuel
    induction fuel with
    | zero =>
      intro listed γ κ a W hsz hcnt hcl hC
      have hall : ∀ i, i < l.length → listed.getD i false = true := by
        intro i hi
        have hnil : listed.toList.filter (! ·) = [] := List.length_eq_zero_iff.1 hcnt
        rw [List.filter_eq_nil_iff] at hnil
        have := hnil (listed[i]'(by omega)) (by simp)
        simp at this
        rw [Array.getD_eq_getD_getElem?, Array.getElem?_eq_getElem (by omega)]
        simpa using this
      have hready : Region.ready .any l.toArray listed = [] := by
        unfold Region.ready
        rw [List.filter_eq_nil_iff]
        intro i hi
        have hi' : i < l.length := by simpa using hi
        have := hall i hi'
        rw [Array.getD_eq_getD_getElem?, Array.getElem?_eq_getElem (by omega)] at this
        simp [Array.getD_eq_getD_getElem?, Array.getElem?_eq_getElem (show i < listed.size by omega)]
        simp at this
        simp [this]
      refine ⟨hready, s2, γ, κ, ?_, hQ⟩
      rw [hw.fin 0 _ (fun j _ hj => hall j (by omega))] at hC
      exact hC
    | succ fuel ih =>
      intro listed γ κ a W hsz hcnt hcl hC
      have mem_ready : ∀ i, i ∈ Region.ready .any l.toArray listed ↔ ∃ o, l[i]? = some o ∧ listed.getD i false = false ∧ ∀ j ∈ ons o, listed.getD j false = true := by
        intro i
        unfold Region.ready
        rw [List.mem_filter]
        constructor
        · rintro ⟨h1, h2⟩
          have hi : i < l.length := by simpa using h1
          simp only [List.getElem?_toArray, List.getElem?_eq_getElem hi, Option.map_some, Option.getD_some, Bool.and_eq_true] at h2
          refine ⟨l[i], List.getElem?_eq_getElem hi, ?_, ?_⟩
          · have := h2.1
            rw [Array.getD_eq_getD_getElem?, Array.getElem?_eq_getElem (by omega)] at this ⊢
            simpa using this
          · intro j hj
            obtain ⟨e, he, hje⟩ := List.mem_filterMap.1 hj
            have h3 := h2.2
            rw [Array.all_eq_true'] at h3
            have := h3 e (by simpa using he)
            cases hb : Region.binds .any e with
            | false => rw [hb] at hje; cases hje
            | true =>
              rw [hb] at hje this
              obtain rfl := Option.some.inj hje
              simpa using this
        · rintro ⟨o, ho, h1, h2⟩
          have hi : i < l.length := (List.getElem?_eq_some_iff.1 ho).1
          refine ⟨by simpa using hi, ?_⟩
          simp only [List.getElem?_toArray, ho, Option.map_some, Option.getD_some, Bool.and_eq_true]
          refine ⟨?_, ?_⟩
          · rw [Array.getD_eq_getD_getElem?, Array.getElem?_eq_getElem (by omega)] at h1 ⊢
            simpa using h1
          · rw [Array.all_eq_true']
            intro e he
            cases hb : Region.binds .any e with
            | false => rfl
            | true =>
              have := h2 e.on (List.mem_filterMap.2 ⟨e, by simpa using he, by rw [hb]⟩)
              simpa using this
      refine ⟨fun hready => ?_, fun i hi => ?_⟩
      · -- nothing is ready: that can't be: the first one that isn't listed is
        exfalso
        have hex : ∃ i, i < l.length ∧ listed.getD i false = false := by
          have hne : listed.toList.filter (! ·) ≠ [] := by intro e; rw [e] at hcnt; simp at hcnt
          obtain ⟨b, hb⟩ := List.exists_mem_of_ne_nil _ hne
          obtain ⟨hb1, hb2⟩ := List.mem_filter.1 hb
          obtain ⟨i, hi⟩ := List.mem_iff_getElem?.1 hb1
          have hi' := (List.getElem?_eq_some_iff.1 hi).1
          refine ⟨i, by rw [← hsz]; simpa using hi', ?_⟩
          rw [Array.getD_eq_getD_getElem?, ← Array.getElem?_toList, hi]
          simpa using hb2
        have hmin : ∃ i, i < l.length ∧ listed.getD i false = false ∧ ∀ j, j < i → listed.getD j false = true := by
          obtain ⟨i, h1, h2⟩ := hex
          induction i using Nat.strongRecOn with
          | _ i ihi =>
            by_cases hall : ∀ j, j < i → listed.getD j false = true
            · exact ⟨i, h1, h2, hall⟩
            · have : ∃ j, j < i ∧ listed.getD j false = false := by
                apply Classical.byContradiction
                intro hno
                apply hall
                intro j hj
                cases hb : listed.getD j false with
                | true => rfl
                | false => exact absurd ⟨j, hj, hb⟩ hno
              obtain ⟨j, hj, hb⟩ := this
              exact ihi j hj (by omega) hb
        obtain ⟨i, h1, h2, h3⟩ := hmin
        have : i ∈ Region.ready .any l.toArray listed := (mem_ready i).2 ⟨l[i], List.getElem?_eq_getElem h1, h2, fun j hj => h3 j (by have := hback' i _ (List.getElem?_eq_getElem h1) j hj; omega)⟩
        rw [hready] at this
        cases this
      · obtain ⟨o, ho, hli, hon⟩ := (mem_ready i).1 hi
        have hil : i < l.length := (List.getElem?_eq_some_iff.1 ho).1
        obtain ⟨f, hf⟩ : ∃ f, fs[i]? = some f := ⟨_, List.getElem?_eq_getElem (by omega)⟩
        have hLS := hw.at 0 i o f ho hf
        simp only [Nat.zero_add] at hLS
        obtain ⟨hdst, hloc⟩ := hLS
        -- all that come ahead of i are listed; nothing that is listed waits for i
        have hancL : ∀ k b, (anc l [])[k]? = some b → listed.getD k false = true → ∀ j ∈ b, listed.getD j false = true :=
          anc_closed (fun k => listed.getD k false) l [] [] rfl (by simpa using hcl) (by simp)
        have hanci : ∀ b, (anc l [])[i]? = some b → ∀ j ∈ b, j = i ∨ listed.getD j false = true := by
          intro b hb j hj
          have := anc_closed (fun k => decide (k = i) || listed.getD k false) l [] [] rfl (by
            intro k q hq hk j hj
            simp only [List.nil_append] at hq
            simp only [Bool.or_eq_true, decide_eq_true_eq] at hk ⊢
            rcases hk with e | e
            · subst e
              rw [ho] at hq
              cases hq
              exact .inr (hon j hj)
            · exact .inr (hcl k q hq e j hj)) (by simp) i b hb (by simp) j hj
          simpa using this
        have hpi : ∀ j g, fs[j]? = some g → listed.getD j false ≠ decide (j < i) → (j < i ∧ pairOK g f = true) ∨ (i < j ∧ pairOK f g = true) := by
          intro j g hg hne
          have hjl : j < l.length := by rw [hn]; exact (List.getElem?_eq_some_iff.1 hg).1
          rcases Nat.lt_trichotomy j i with h | h | h
          · refine .inl ⟨h, ?_⟩
            rw [decide_eq_true h] at hne
            have hj : listed.getD j false = false := by simpa using hne
            obtain ⟨b, hb⟩ : ∃ b, (anc l [])[i]? = some b := ⟨_, List.getElem?_eq_getElem (by omega)⟩
            rcases (hpair i f b hf hb).2 j g hg h with e | e
            · rcases hanci b hb _ e with e2 | e2
              · omega
              · simp only [Nat.zero_add] at e2; rw [hj] at e2; cases e2
            · exact e
          · subst h
            rw [hli] at hne
            simp at hne
          · refine .inr ⟨h, ?_⟩
            rw [decide_eq_false (by omega)] at hne
            have hj : listed.getD j false = true := by simpa using hne
            obtain ⟨b, hb⟩ : ∃ b, (anc l [])[j]? = some b := ⟨_, List.getElem?_eq_getElem (by omega)⟩
            rcases (hpair j g b hg hb).2 i f hf h with e | e
            · have := hancL j b hb hj _ e
              simp only [Nat.zero_add] at this
              rw [hli] at this; cases this
            · exact e
        have hsp : ∀ (x : Nat) (y : Option Nat), y = some x → x ∈ y.toList := by rintro x y rfl; simp
        have hagree := hloc (runL (fun i => listed.getD i false) 0 fs s) (fun t ht => by
            refine runL_env _ _ t fs 0 s s rfl fun j g hg hne hdt => ?_
            simp only [Nat.zero_add] at hne
            rcases hpi j g hg hne with ⟨_, hp⟩ | ⟨_, hp⟩ <;> simp only [pairOK, Bool.and_eq_true] at hp
            · exact disj_spec hp.1.1.1 (hsp t _ hdt) (by simp [ht])
            · exact disj_spec hp.1.1.2 ht (hsp t _ hdt)) (fun p hp' => by
            refine runL_hp _ _ p fs 0 s s rfl rfl fun j g hg hne hdt => ?_
            simp only [Nat.zero_add] at hne
            rcases hpi j g hg hne with ⟨_, hp⟩ | ⟨_, hp⟩ <;> simp only [pairOK, Bool.and_eq_true] at hp
            · exact disj_spec hp.1.2 hdt (by simp [hp'])
            · exact disj_spec hp.2 hp' hdt) (by rw [runL_len, runL_len])
        -- behind it
        have hszi : i < listed.size := by omega
        have hbi : listed[i] = false := by
          rw [Array.getD_eq_getD_getElem?, Array.getElem?_eq_getElem hszi] at hli
          simpa using hli
        have hnext : ∀ γ κ a W, Conc C (f.ap (runL (fun i => listed.getD i false) 0 fs s)) γ κ a W → wpAny C.P .any l.toArray (CQ C Q) fuel (listed.setIfInBounds i true) a W := by
          intro γ κ a W hC'
          refine ih _ γ κ a W (by simpa using hsz) (count_set hszi hbi hcnt) ?_ ?_
          · intro k q hq hk j hj
            rw [getD_set hszi] at hk ⊢
            by_cases e : j = i
            · rw [if_pos e]
            · rw [if_neg e]
              by_cases e2 : k = i
              · subst e2
                rw [ho] at hq
                cases hq
                exact hon j hj
              · rw [if_neg e2] at hk
                exact hcl k q hq hk j hj
          · have hs := runL_add (fun i => listed.getD i false) i fs 0 s f (Nat.zero_le _) hli hf (fun j g hg hlt hl => by
              simp only [Nat.zero_add] at hlt hl
              have := hpi j g hg (by rw [hl, decide_eq_false (by omega)]; simp)
              rcases this with ⟨h, _⟩ | ⟨_, hp⟩
              · omega
              · simp only [pairOK, Bool.and_eq_true] at hp
                exact ⟨fun d hd hgd => disj_spec hp.1.1.1 (hsp d _ hd) (by simp [hgd]), fun p hd hgd => disj_spec hp.1.2 hd (by simp [hgd])⟩)
            have e : (fun j => if j = i then true else listed.getD j false) = fun j => (listed.setIfInBounds i true).getD j false := by
              funext j; rw [getD_set hszi]
            rw [e] at hs
            exact hs.conc hC'
        unfold wpOp
        rw [List.getElem?_toArray, ho]
        simp only
        rcases hagree with ⟨hwt, hop⟩ | ⟨hwt, hdk, hd⟩
        · rw [if_pos (awant_ok hC hwt)]
          exact .inl (hop γ κ a W hC _ _ hnext)
        · rw [if_neg (by rw [awant_ok hC hwt]; simp)]
          refine hnext γ κ _ _ ?_
          have := hC.put hdk (v := .undef) .undef
          have e : f.ap (runL (fun i => listed.getD i false) 0 fs s) = (runL (fun i => listed.getD i false) 0 fs s).put o.dst .undef := by
            unfold Fx.ap Dl.ap
            rw [hd, hdst]
          rw [e]; exact this
  refine key l.toArray.size (Array.replicate l.toArray.size false) γ κ a _ (by simp) (by simp) ?_ ?_
  · intro i o ho hk
    exfalso
    rw [Array.getD_eq_getD_getElem?, Array.getElem?_replicate] at hk
    split at hk <;> simp at hk
  · have : ∀ (q : List Fx) (m : Nat) (s : St), runL (fun i => (Array.replicate l.toArray.size false).getD i false) m q s = s := by
      intro q
      induction q with
      | nil => intro m s; rfl
      | cons g q ih =>
        intro m s
        simp only [runL]
        have : (Array.replicate l.toArray.size false).getD m false = false := by
          rw [Array.getD_eq_getD_getElem?, Array.getElem?_replicate]
          split <;> rfl
        rw [this]
        exact ih (m + 1) s
    rw [this]
    exact hC0
end

section
variable {C : Cx} {s t : St} {γ : Nat → Option Nat} {κ : Nat → Nat} {a : Act} {W : World} {o : Oper} {T : List (Nat × TI)} {l r rest : List Oper} {Q : Exit → St → Prop}
-- what goes ahead of what, as bits
def forceN {α : Type} (n : Nat) (k : Nat → α) : α :=
  match n with
  | 0 => k 0
  | m + 1 => k (m + 1)
theorem forceN_eq {α : Type} (n : Nat) (k : Nat → α) : forceN n k = k n := by cases n <;> rfl
def maskOf (acc : List Nat) (l : List Nat) : Nat := l.foldl (fun m j => m ||| ((1 <<< j) ||| acc.getD j 0)) 0
theorem mask_bit (acc : List Nat) (x : Nat) : ∀ (l : List Nat) (m : Nat), (l.foldl (fun m j => m ||| ((1 <<< j) ||| acc.getD j 0)) m).testBit x = (m.testBit x || l.any fun j => decide (j = x) || (acc.getD j 0).testBit x)
  | [], m => by simp
  | j :: l, m => by
    rw [List.foldl_cons, mask_bit acc x l]
    simp only [Nat.testBit_or, List.any_cons, Bool.or_assoc]
    congr 2
    rw [Nat.one_shiftLeft, Nat.testBit_two_pow]
def ancM : List Oper → List Nat → List Nat
  | [], acc => acc
  | o :: r, acc => forceN (maskOf acc (ons o)) fun m => ancM r (acc ++ [m])
def SameB (a : List Nat) (m : Nat) : Prop := ∀ x, memB x a = m.testBit x
theorem memB_append (x : Nat) : ∀ (a b : List Nat), memB x (a ++ b) = (memB x a || memB x b)
  | [], b => by simp [memB]
  | y :: a, b => by
    simp only [List.cons_append, memB]
    split
    · rfl
    · exact memB_append x a b
theorem memB_flat (x : Nat) (g : Nat → List Nat) : ∀ l : List Nat, memB x (l.flatMap g) = l.any fun j => memB x (g j)
  | [] => rfl
  | j :: l => by rw [List.flatMap_cons, memB_append, memB_flat x g l]; rfl
theorem getD_same {acc : List (List Nat)} {accM : List Nat} (h : All2 SameB acc accM) (j : Nat) : SameB (acc.getD j []) (accM.getD j 0) := by
  intro x
  rw [List.getD_eq_getElem?_getD, List.getD_eq_getElem?_getD]
  cases hj : acc[j]? with
  | none =>
    have : accM[j]? = none := by
      rw [List.getElem?_eq_none_iff] at hj ⊢
      rw [← h.length]; exact hj
    rw [this]
    simp [memB]
  | some a =>
    obtain ⟨m, h1, h2⟩ := h.get hj
    rw [h1]
    exact h2 x
theorem ancM_spec : ∀ (l : List Oper) {acc : List (List Nat)} {accM : List Nat}, All2 SameB acc accM → All2 SameB (anc l acc) (ancM l accM)
  | [], _, _, h => h
  | o :: r, acc, accM, h => by
    simp only [anc, ancM, forceN_eq]
    refine ancM_spec r (h.append (.cons (fun x => ?_) .nil))
    unfold maskOf
    rw [memB_flat, mask_bit]
    simp only [Nat.zero_testBit, Bool.false_or]
    congr 1
    funext j
    simp only [memB]
    rw [← getD_same h j x]
    by_cases e : j = x
    · subst e
      simp
    · have e' : Nat.beq x j = false := by
        rw [← Bool.not_eq_true]
        intro hb
        exact e (Nat.eq_of_beq_eq_true hb).symm
      rw [e']; simp [e]
def allOKM : List Fx → List Nat → Nat → List (Nat × Fx) → Bool
  | [], _, _, _ => true
  | g :: r, an, i, pre => (match an with
    | [] => false
    | a :: an => pre.all (fun q => a.testBit q.1 || pairOK q.2 g) && allOKM r an (i + 1) (pre ++ [(i, g)]))
theorem allOKM_eq : ∀ (l : List Fx) {an : List (List Nat)} {anM : List Nat} (_ : All2 SameB an anM) (i : Nat) (pre : List (Nat × Fx)), allOK l an i pre = allOKM l anM i pre
  | [], _, _, _, _, _ => rfl
  | g :: r, _, _, .nil, i, pre => rfl
  | g :: r, _, _, .cons h1 h2, i, pre => by
    simp only [allOK, allOKM]
    rw [allOKM_eq r h2]
    congr 1
    congr 1
    funext q
    rw [h1 q.1]

-- from AwO's
def upD : A.Dl → Dl
  | .val v => .val v
  | .blk p b v => .wr [(p, b)] v
def up (f : A.Fx) : Fx := ⟨f.dst, upD f.d, f.rs, f.rb⟩
theorem up_ap (f : A.Fx) (s : St) : (up f).ap s = A.Fx.ap f s := by
  obtain ⟨d, δ, rs, rb⟩ := f
  obtain ⟨e, h⟩ := s
  cases δ <;> rfl
theorem up_wb (f : A.Fx) : (up f).d.wb = f.d.wb.toList := by
  obtain ⟨d, δ, rs, rb⟩ := f
  cases δ <;> rfl
theorem LS.of {f : A.Fx} (h : A.LS C l s o f) : LS C l s o (up f) := by
  refine ⟨h.1, fun s' h1 h2 h3 => ?_⟩
  rw [up_ap]
  rcases h.2 s' h1 h2 h3 with h | ⟨k1, k2, k3⟩
  · exact .inl h
  · exact .inr ⟨k1, k2, by show upD f.d = _; rw [k3]; rfl⟩
def wbD (w : List Nat) : Dl := .wr (w.map fun p => (p, ⟨0, 0, []⟩)) .undef
theorem wbD_wb (w : List Nat) : (wbD w).wb = w := by
  unfold wbD Dl.wb
  simp only [List.map_map]
  exact List.map_id' _
structure SameX (f g : Fx) : Prop where
  dst : f.dst = g.dst
  rs : f.rs = g.rs
  rb : f.rb = g.rb
  wb : f.d.wb = g.d.wb
theorem pairOK_same {f f' g g' : Fx} (h1 : SameX f f') (h2 : SameX g g') : pairOK f g = pairOK f' g' := by
  unfold pairOK
  rw [h1.dst, h1.rs, h1.rb, h1.wb, h2.dst, h2.rs, h2.rb, h2.wb]
theorem allOK_same : ∀ {l l' : List Fx} (_ : All2 SameX l l') (an : List (List Nat)) (i : Nat) {pre pre' : List (Nat × Fx)}, All2 (fun p q => p.1 = q.1 ∧ SameX p.2 q.2) pre pre' → allOK l an i pre = allOK l' an i pre'
  | _, _, .nil, an, i, pre, pre', _ => rfl
  | _, _, .cons (a := f) (b := f') (l := l) (m := l') h1 h2, an, i, pre, pre', hp => by
    cases an with
    | nil => rfl
    | cons b an =>
      simp only [allOK]
      have e1 : (pre.all fun q => memB q.1 b || pairOK q.2 f) = pre'.all fun q => memB q.1 b || pairOK q.2 f' := by
        induction hp with
        | nil => rfl
        | cons k1 _ ih => simp only [List.all_cons, ih, k1.1, pairOK_same k1.2 h1]
      rw [e1, allOK_same h2 an (i + 1) (hp.append (.cons (a := (i, f)) (b := (i, f')) ⟨rfl, h1⟩ .nil))]
theorem SameX.refl (f : Fx) : SameX f f := ⟨rfl, rfl, rfl, rfl⟩
def DQ (C : Cx) (l r : List Oper) (s : St) (acc : List Fx) (Q : Exit → St → Prop) : Prop := ∃ fs s2, DW C l r s fs s2 ∧ allOK (acc ++ fs) (anc l []) 0 [] = true ∧ Q .normal s2
theorem DQ.step2 {r : List Oper} {s : St} {acc : List Fx} {o : Oper} {f : Fx} {Q : Exit → St → Prop} (h1 : LS C l s o f) {e1 : List (Nat × AV)} {h1' : List Blk} (he : f.ap s = ⟨e1, h1'⟩) {dst : Option Nat} {w rs rb : List Nat}
    (k1 : canonO f.dst = some dst) (k2 : canonL f.rs = some rs) (k3 : canonL f.rb = some rb) (k4 : canonL f.d.wb = some w) (k : DQ C l r ⟨e1, h1'⟩ (acc ++ [⟨dst, wbD w, rs, rb⟩]) Q) : DQ C l (o :: r) s acc Q := by
  obtain ⟨fs, s2, q1, q2, q3⟩ := k
  refine ⟨f :: fs, s2, .cons h1 (by rw [he]; exact q1), ?_, q3⟩
  rw [← q2]
  have := allOK_same ((All2.append (all2_refl SameX.refl acc) (.cons (a := f) (b := ⟨dst, wbD w, rs, rb⟩) ⟨canonO_eq k1, canonL_eq k2, canonL_eq k3, by rw [wbD_wb]; exact canonL_eq k4⟩ .nil)).append (all2_refl SameX.refl fs)) (anc l []) 0 .nil
  rw [← this, List.append_assoc]
  rfl
theorem DQ.stepc {r : List Oper} {s : St} {acc : List Fx} {o : Oper} {f : A.Fx} {Q : Exit → St → Prop} (h1 : A.LS C l s o f) {e1 : List (Nat × AV)} {h1' : List Blk} (he : A.Fx.ap f s = ⟨e1, h1'⟩) {dst : Option Nat} {w rs rb : List Nat}
    (k1 : canonO f.dst = some dst) (k2 : canonL f.rs = some rs) (k3 : canonL f.rb = some rb) (k4 : canonL f.d.wb.toList = some w) (k : DQ C l r ⟨e1, h1'⟩ (acc ++ [⟨dst, wbD w, rs, rb⟩]) Q) : DQ C l (o :: r) s acc Q :=
  DQ.step2 (LS.of h1) (by rw [up_ap]; exact he) k1 k2 k3 (by rw [up_wb]; exact k4) k
theorem LS.sm {f : Fx} (h : Sm s t) (hl : LS C l t o f) : LS C l s o f :=
  ⟨hl.1, fun s' h1 h2 h3 => hl.2 s' (fun x hx => (h1 x hx).trans (h.env x)) (fun p hp => by rw [h2 p hp, h.hp]) (by rw [h3, h.hp])⟩
theorem DW.sm {fs : List Fx} {t2 : St} (hd : DW C l r t fs t2) : ∀ {s : St}, Sm s t → ∃ s2, DW C l r s fs s2 ∧ Sm s2 t2 := by
  induction hd with
  | nil t => intro s h; exact ⟨s, .nil s, h⟩
  | cons h1 h2 ih =>
    intro s h
    obtain ⟨s2, k1, k2⟩ := ih (h.ap _)
    exact ⟨s2, .cons (h1.sm h) k1, k2⟩
theorem DQ.sm {acc : List Fx} (h : Sm s t) (hq : DQ C l r t acc (Wk C Q)) : DQ C l r s acc (Wk C Q) := by
  obtain ⟨fs, t2, h1, h2, s3, h3, h4⟩ := hq
  obtain ⟨s2, k1, k2⟩ := h1.sm h
  exact ⟨fs, s2, k1, h2, s3, fun γ κ a W hC => h3 γ κ a W (k2.conc hC), h4⟩
theorem drawW (hm : C.P.follows .mixedOrders = true) {id : Nat} (hback : backOK l 0 = true) (h : DQ C l l s [] (Wk C Q)) : A.AW C (.region id l.toArray true) Q s := by
  obtain ⟨fs, s2, k1, k2, k3⟩ := h
  have := AW.draw hm (id := id) k1 hback k2 k3
  intro γ κ a W hC
  exact wp_mono (this γ κ a W hC) fun e a W ⟨s, γ, κ, h1, s3, h2, h3⟩ => by
    obtain ⟨γ', κ', h4⟩ := h2 γ κ a W h1
    exact ⟨s3, γ', κ', h4, h3⟩
theorem DQ.nilM {acc : List Fx} (hok : allOKM acc (ancM l []) 0 [] = true) (hQ : Q .normal s) : DQ C l [] s acc (Wk C Q) := ⟨[], s, .nil s, by rw [List.append_nil, allOKM_eq acc (ancM_spec l .nil)]; exact hok, s, Le.refl C s, hQ⟩
theorem DQ.split {acc : List Fx} {d : Nat} {b : Bool} (hb : get s.env d = some (.imm (.bool b))) (h1 : b = true → DQ C l r ⟨(d, .imm (.bool true)) :: s.env, s.hp⟩ acc (Wk C Q)) (h2 : b = false → DQ C l r ⟨(d, .imm (.bool false)) :: s.env, s.hp⟩ acc (Wk C Q)) : DQ C l r s acc (Wk C Q) := by
  have key : ∀ c, b = c → Sm s ⟨(d, .imm (.bool c)) :: s.env, s.hp⟩ := by
    intro c e
    refine ⟨fun x => ?_, rfl⟩
    simp only [get]
    split
    · rename_i hx
      have := Nat.eq_of_beq_eq_true hx
      subst this
      rw [hb, e]
    · rfl
  cases hb' : b with
  | true => exact DQ.sm (key true hb') (h1 hb')
  | false => exact DQ.sm (key false hb') (h2 hb')
theorem DQ.gsplitE {acc : List Fx} {j d : Nat} {want b : Bool} {e : List (Nat × AV)} {h : List Blk} (hg : o.guard = some (j, want)) (hd : dstOf l j = some d) (hb : get e d = some (.imm (.bool b))) (h1 : b = true → DQ C l (o :: r) ⟨(d, .imm (.bool true)) :: e, h⟩ acc (Wk C Q)) (h2 : b = false → DQ C l (o :: r) ⟨(d, .imm (.bool false)) :: e, h⟩ acc (Wk C Q)) : DQ C l (o :: r) ⟨e, h⟩ acc (Wk C Q) := DQ.split hb h1 h2
theorem setAll_L : ∀ (m : List Nat) (bs : List Blk) (h : List Blk), m.length = bs.length → setAll h m bs = setL h (m.zip bs)
  | [], [], h, _ => rfl
  | i :: m, b :: bs, h, hl => by
    simp only [setAll, List.zip_cons_cons, setL]
    exact setAll_L m bs (h.set i b) (by simpa using hl)
/-- A call that is lent own blocks and hands them back, changed or not. -/
theorem LS.callG (m : List Nat) (hw : awant l s o = some true) {fo : Operand} {args : Array Operand} {ats : Array TypeId} (ho : o.op = .call ⟨.value fo, args, ats⟩) (hd : dok C.nt o.dst = true) {f : Nat} {caps : List AV} (hfo : s.ev fo = some (aFn f caps)) {vs : List AV} (hx : evs s args.toList = some vs)
    {hp0 : List Blk} {asx : List AV} {r : AV} {hp1 : List Blk} (hc : GenC C.P f hp0 asx r hp1)
    (hargs : ∀ n, vs ++ caps = asx.map (ren (rho m n))) {bs : List Blk} (hb : m.map (nth s.hp) = bs.map some) (hhp : ∀ n, bs = hp0.map (renB (rho m n))) (hnd : nodupB m = true)
    (hs0 : asx.all (AV.sc (len m)) = true) (hs1 : hp0.all (fun b => b.rows.all fun r => r.all (AV.sc1 (len m))) = true) (hs2 : r.sc (len hp1) = true) (hs3 : hp1.all (fun b => b.rows.all fun r => r.all (AV.sc1 (len hp1))) = true) (hlen : Nat.beq (len m) (len hp1) = true)
    {hpA : List Blk} (eA : ∀ n, hp1.map (renB (rho m n)) = hpA) {r' : AV} (er : ∀ n, ren (rho m n) r = r') :
    LS C l s o ⟨o.dst, .wr (m.zip hpA) r', tmpsOf o.op.operands.toList ++ gds l o, refsOf s o.op.operands.toList ++ m⟩ := by
  refine ⟨rfl, fun s' h1 h2 h3 => .inl ?_⟩
  have hl : Loc l s s' o m := Loc.of (d := .val .undef) h1 h2 h3
  refine ⟨hl.want.trans hw, ?_⟩
  have hln := Nat.eq_of_beq_eq_true hlen
  rw [len_eq, len_eq] at hln
  have g1 : s'.ev fo = some (aFn f caps) := (hl.ev fo (call_mem ho).1).trans hfo
  have g2 : evs s' args.toList = some vs := (hl.evs fun x hx => (call_mem ho).2 x hx).trans hx
  have hb' : m.map (nth s'.hp) = bs.map some := by
    rw [← hb]
    exact List.map_congr_left fun p hp => hl.xb p hp
  have := OpOK.callG ho hd (s := s') g1 g2 m hc (hargs _) (by rw [hb', hhp s'.hp.length, List.map_map]; rfl) hnd hs0 hs1 hs2 hs3 (by rw [len_eq, len_eq]; omega)
  have e1 : hp1.drop (len m) = [] := by rw [len_eq]; exact List.drop_eq_nil_of_le (by omega)
  rw [e1, List.map_nil, List.append_nil, eA, er, setAll_L m hpA _ (by rw [hln, ← eA 0, List.length_map])] at this
  obtain ⟨e, h⟩ := s'
  exact this
end
end Go.Proofs.YtjjdabihnmilgaaGreat.A.M2
namespace Go.Proofs.YtjjdabihnmilgaaGreat.A
open Go.RowKit
set_option linter.unusedVariables false
set_option linter.unusedSimpArgs false
section
variable {C : Cx} {s t : St} {γ : Nat → Option Nat} {κ : Nat → Nat} {a : Act} {W : World} {o : Oper} {T : List (Nat × TI)} {l r rest : List Oper} {Q : Exit → St → Prop}
theorem OpOK.boxAt (p : Nat) (hd : dok C.nt o.dst = true) {t : TypeId} {x : Operand} (ho : o.op = .box t x) {q : AV} (hx : s.ev x = some q) {sz : Nat} (hp : nth s.hp p = some ⟨t, sz, []⟩) (hl : Nat.beq (len (avCells q)) sz = true) (hcell : (avCells q).all AV.cell = true) : OpOK C s o (St.put ⟨s.env, s.hp.set p ⟨t, sz, [avCells q]⟩⟩ o.dst (.ptr p 1 0 0)) := by
  have hl' := Nat.eq_of_beq_eq_true hl
  rw [len_eq] at hl'
  rw [nth_eq] at hp
  refine OpOK.newAt hd hp hl' hcell fun γ κ a W hC => ?_
  refine ⟨_, (hC.ev hx).cells, ?_⟩
  unfold execOp; rw [ho]
  refine val_run ?_
  unfold Instr.box
  rw [Array.toArray_toList]
  rfl
end
end Go.Proofs.YtjjdabihnmilgaaGreat.A
