/- The abstract walk, part Q: single operations in a region that draws its order. -/
import Derived.Test.YteijifoobaoclaaGreatAwO
namespace Go.Proofs.YteijifoobaoclaaGreat.A
open Go.RowKit
set_option linter.unusedVariables false
set_option linter.unusedSimpArgs false
def refs : AV → List Nat
  | .ptr id _ _ _ => [id]
  | .os id _ => [id]
  | _ => []
def tmpsOf : List Operand → List Nat
  | [] => []
  | .tmp t :: r => t :: tmpsOf r
  | _ :: r => tmpsOf r
def refsOf (s : St) : List Operand → List Nat
  | [] => []
  | x :: r => (match s.ev x with
    | some v => refs v ++ refsOf s r
    | none => refsOf s r)
def gds (l : List Oper) (o : Oper) : List Nat :=
  match o.guard with
  | some (j, _) => (match dstOf l j with
    | some d => [d]
    | none => [])
  | none => []
def mkFx (l : List Oper) (s : St) (o : Oper) (d : Dl) (xb : List Nat) : Fx := ⟨o.dst, d, tmpsOf o.op.operands.toList ++ gds l o, refsOf s o.op.operands.toList ++ xb⟩
theorem tmpsOf_mem {t : Nat} : ∀ {xs : List Operand}, Operand.tmp t ∈ xs → t ∈ tmpsOf xs
  | [], h => by cases h
  | x :: r, h => by
    rcases List.mem_cons.1 h with e | e
    · subst e; simp [tmpsOf]
    · have := tmpsOf_mem e
      cases x <;> simp [tmpsOf, this]
theorem refsOf_mem {s : St} {x : Operand} {v : AV} (hv : s.ev x = some v) {p : Nat} (hp : p ∈ refs v) : ∀ {xs : List Operand}, x ∈ xs → p ∈ refsOf s xs
  | [], h => by cases h
  | y :: r, h => by
    simp only [refsOf]
    rcases List.mem_cons.1 h with e | e
    · subst e; rw [hv]; simp [hp]
    · have := refsOf_mem hv hp e
      split
      · simp [this]
      · exact this
/-- s' is as s for what o looks at. -/
structure Loc (l : List Oper) (s s' : St) (o : Oper) (xb : List Nat) : Prop where
  ev : ∀ x ∈ o.op.operands.toList, s'.ev x = s.ev x
  want : awant l s' o = awant l s o
  hp : ∀ x ∈ o.op.operands.toList, ∀ v, s.ev x = some v → ∀ p ∈ refs v, nth s'.hp p = nth s.hp p
  xb : ∀ p ∈ xb, nth s'.hp p = nth s.hp p
  len : s'.hp.length = s.hp.length
theorem Loc.of {l : List Oper} {s s' : St} {o : Oper} {d : Dl} {xb : List Nat} (h1 : ∀ t ∈ (mkFx l s o d xb).rs, get s'.env t = get s.env t) (h2 : ∀ p ∈ (mkFx l s o d xb).rb, s'.hp[p]? = s.hp[p]?) (h3 : s'.hp.length = s.hp.length) : Loc l s s' o xb := by
  refine ⟨fun x hx => ?_, ?_, fun x hx v hv p hp => ?_, fun p hp => ?_, h3⟩
  · cases x with
    | tmp t => exact h1 t (List.mem_append.2 (.inl (tmpsOf_mem hx)))
    | const v => cases v with
      | pointer a => cases a <;> rfl
      | slice a n c => cases a <;> cases n <;> cases c <;> rfl
      | _ => rfl
    | global g => rfl
    | func f => rfl
  · unfold awant
    cases hg : o.guard with
    | none => rfl
    | some z =>
      obtain ⟨j, want⟩ := z
      simp only
      cases hd : dstOf l j with
      | none => rfl
      | some d =>
        simp only
        rw [h1 d (List.mem_append.2 (.inr (by simp [gds, hg, hd])))]
  · rw [nth_eq, nth_eq]
    exact h2 p (List.mem_append.2 (.inl (refsOf_mem hv hp hx)))
  · rw [nth_eq, nth_eq]
    exact h2 p (List.mem_append.2 (.inr hp))
section
variable {C : Cx} {s : St} {o : Oper} {T : List (Nat × TI)} {l : List Oper}
theorem LS.quiet {v : AV} (xb : List Nat) (hw : awant l s o = some true) (h : ∀ s', Loc l s s' o xb → OpOK C s' o (s'.put o.dst v)) : LS C l s o (mkFx l s o (.val v) xb) :=
  ⟨rfl, fun s' h1 h2 h3 => by
    have hl := Loc.of h1 h2 h3
    exact .inl ⟨hl.want.trans hw, h s' hl⟩⟩
theorem LS.blk {p : Nat} {b : Blk} {v : AV} (xb : List Nat) (hw : awant l s o = some true) (h : ∀ s', Loc l s s' o xb → OpOK C s' o (St.put ⟨s'.env, s'.hp.set p b⟩ o.dst v)) : LS C l s o (mkFx l s o (.blk p b v) xb) :=
  ⟨rfl, fun s' h1 h2 h3 => by
    have hl := Loc.of h1 h2 h3
    refine .inl ⟨hl.want.trans hw, ?_⟩
    have := h s' hl
    obtain ⟨e, hh⟩ := s'
    exact this⟩
theorem LS.skip (hw : awant l s o = some false) (hd : dok C.nt o.dst = true) : LS C l s o (mkFx l s o (.val .undef) []) :=
  ⟨rfl, fun s' h1 h2 h3 => by
    have hl := Loc.of h1 h2 h3
    exact .inr ⟨hl.want.trans hw, hd, rfl⟩⟩
theorem Loc.evs {s' : St} {xb : List Nat} (h : Loc l s s' o xb) : ∀ {xs : List Operand}, (∀ x ∈ xs, x ∈ o.op.operands.toList) → evs s' xs = A.evs s xs
  | [], _ => rfl
  | x :: r, hx => by
    simp only [A.evs]
    rw [h.ev x (hx x (by simp)), h.evs fun y hy => hx y (by simp [hy])]
theorem Loc.evps {s' : St} {xb : List Nat} (h : Loc l s s' o xb) : ∀ {xs : List (Nat × Operand)}, (∀ x ∈ xs, x.2 ∈ o.op.operands.toList) → evps s' xs = A.evps s xs
  | [], _ => rfl
  | (i, x) :: r, hx => by
    simp only [A.evps]
    rw [h.ev x (hx (i, x) (by simp)), h.evps fun y hy => hx y (by simp [hy])]
/-- The values that need no more than a look. -/
noncomputable def aval (T : List (Nat × TI)) (s : St) (o : Oper) : Option AV :=
  match o.op with
  | .move x => s.ev x
  | .assign x => s.ev x
  | .pick c x y => (match s.ev c with
    | some (.imm (.bool b)) => s.ev (pk b x y)
    | _ => none)
  | .load t p => (match s.ev p with
    | some q => aLoad T s t q
    | none => none)
  | .fieldAddr t x f => (match s.ev x with
    | some q => (match curB s q with
      | true => aFieldAddr T t f q
      | false => none)
    | none => none)
  | .field t x f => (match s.ev x with
    | some q => aField T t f q
    | none => none)
  | .extract x i => (match s.ev x with
    | some q => aEx i q
    | none => none)
  | .unOp .not t x => (match s.ev x with
    | some (.imm (.bool b)) => some (.imm (.bool !b))
    | _ => none)
  | .binOp op t x y _ => (match s.ev x with
    | some q => (match s.ev y with
      | some r => (match bBin T op t q r with
        | some b => some (.imm (.bool b))
        | none => none)
      | none => none)
    | none => none)
  | .nilCheck x => (match s.ev x with
    | some q => (match isPtr s q with
      | true => some q
      | false => none)
    | none => none)
  | .build t ps => (match look T t with
    | some i => (match i.flds with
      | [] => none
      | _ :: _ => (match evps s ps.toList with
        | some vs => (match aFill (fplace i) i.zero vs with
          | some l => some (.agg l)
          | none => none)
        | none => none))
    | none => none)
  | .call ⟨.builtin .len, args, ats⟩ => (match args.toList with
    | [x] => (match ats.toList with
      | [t] => (match look T t with
        | some i => (match s.ev x with
          | some q => (match aLen s i q with
            | some n => some (.imm (.int .i64 n))
            | none => none)
          | none => none)
        | none => none)
      | _ => none)
    | _ => none)
  | _ => none
theorem aval_aop {v : AV} (h : aval T s o = some v) : aop T s o = some (s.put o.dst v) := by
  unfold aval at h
  unfold aop
  split at h
  · rename_i ho; rw [ho]; simp only; rw [h]; rfl
  · rename_i ho; rw [ho]; simp only; rw [h]; rfl
  · rename_i ho; rw [ho]; simp only
    split at h
    · rename_i b hb; rw [hb]; simp only; rw [h]; rfl
    · cases h
  · rename_i ho; rw [ho]; simp only
    split at h
    · rename_i q hq; rw [hq]; simp only; rw [h]; rfl
    · cases h
  · rename_i ho; rw [ho]; simp only
    split at h
    · rename_i q hq; rw [hq]; simp only
      split at h
      · rename_i hc; rw [hc]; simp only; rw [h]; rfl
      · cases h
    · cases h
  · rename_i ho; rw [ho]; simp only
    split at h
    · rename_i q hq; rw [hq]; simp only; rw [h]; rfl
    · cases h
  · rename_i ho; rw [ho]; simp only
    split at h
    · rename_i q hq; rw [hq]; simp only; rw [h]; rfl
    · cases h
  · rename_i ho; rw [ho]; simp only
    split at h
    · rename_i b hb; rw [hb]; obtain rfl := Option.some.inj h; rfl
    · cases h
  · rename_i ho; rw [ho]; simp only
    split at h
    · rename_i q hq; rw [hq]; simp only
      split at h
      · rename_i r hr; rw [hr]; simp only
        split at h
        · rename_i b hb; rw [hb]; obtain rfl := Option.some.inj h; rfl
        · cases h
      · cases h
    · cases h
  · rename_i ho; rw [ho]; simp only
    split at h
    · rename_i q hq; rw [hq]; simp only
      split at h
      · rename_i hc; rw [hc]; obtain rfl := Option.some.inj h; rfl
      · cases h
    · cases h
  · rename_i ho; rw [ho]; simp only
    split at h
    · rename_i i hi; rw [hi]; simp only
      split at h
      · cases h
      · rename_i f fs hf; rw [hf]; simp only
        split at h
        · rename_i vs hvs; rw [hvs]; simp only
          split at h
          · rename_i q hq; rw [hq]; obtain rfl := Option.some.inj h; rfl
          · cases h
        · cases h
    · cases h
  · rename_i ho; rw [ho]; simp only
    split at h
    · rename_i x hx; rw [hx]; simp only
      split at h
      · rename_i t ht; rw [ht]; simp only
        split at h
        · rename_i i hi; rw [hi]; simp only
          split at h
          · rename_i q hq; rw [hq]; simp only
            split at h
            · rename_i n hn; rw [hn]; obtain rfl := Option.some.inj h; rfl
            · cases h
          · cases h
        · cases h
      · cases h
    · cases h
  · cases h
theorem aval_loc {s' : St} {xb : List Nat} (hl : Loc l s s' o xb) {v : AV} (h : aval T s o = some v) : aval T s' o = some v := by
  have hev := hl.ev
  have hhp := hl.hp
  unfold aval at h ⊢
  split at h
  · rename_i x ho; rw [ho] at hev; rw [hev x (by simp [Op.operands])]; exact h
  · rename_i x ho; rw [ho] at hev; rw [hev x (by simp [Op.operands])]; exact h
  · rename_i c x y ho; rw [ho] at hev; rw [hev c (by simp [Op.operands])]
    split at h
    · rename_i b hb
      rw [hev (pk b x y) (by cases b <;> simp [Op.operands, pk])]; exact h
    · cases h
  · rename_i t p ho
    rw [ho] at hev hhp; rw [hev p (by simp [Op.operands])]
    split at h
    · rename_i q hq
      have hr := hhp p (by simp [Op.operands]) q hq
      unfold aLoad at h ⊢
      split at h
      · cases h
      · rename_i i hi
        split at h
        · rename_i id ver row off
          rw [hr id (by simp [refs])]; exact h
        · exact h
        · cases h
    · cases h
  · rename_i t x f ho
    rw [ho] at hev hhp; rw [hev x (by simp [Op.operands])]
    split at h
    · rename_i q hq
      have hr := hhp x (by simp [Op.operands]) q hq
      have : curB s' q = curB s q := by
        unfold curB
        split
        · rw [hr _ (by simp [refs])]
        · rfl
      rw [this]; exact h
    · cases h
  · rename_i t x f ho
    rw [ho] at hev; rw [hev x (by simp [Op.operands])]; exact h
  · rename_i x i ho
    rw [ho] at hev; rw [hev x (by simp [Op.operands])]; exact h
  · rename_i t x ho
    rw [ho] at hev; rw [hev x (by simp [Op.operands])]; exact h
  · rename_i op t x y t2 ho
    rw [ho] at hev; rw [hev x (by simp [Op.operands]), hev y (by simp [Op.operands])]; exact h
  · rename_i x ho
    rw [ho] at hev hhp; rw [hev x (by simp [Op.operands])]
    split at h
    · rename_i q hq
      have hr := hhp x (by simp [Op.operands]) q hq
      have : isPtr s' q = isPtr s q := by
        unfold isPtr
        split
        · rw [hr _ (by simp [refs])]
        all_goals rfl
      rw [this]; exact h
    · cases h
  · rename_i t ps ho
    have := hl.evps (xs := ps.toList) (fun x hx => by
      rw [ho]
      simp only [Op.operands]
      exact List.mem_map.2 ⟨x, hx, rfl⟩)
    rw [this]; exact h
  · rename_i args ats ho
    rw [ho] at hev hhp
    split at h
    · rename_i x hx
      have hxm : x ∈ (Op.call ⟨.builtin .len, args, ats⟩).operands.toList := by simp [Op.operands, Call.operands, hx]
      split at h
      · rename_i t ht
        split at h
        · rename_i i hi
          rw [hev x hxm]
          split at h
          · rename_i q hq
            have hr := hhp x hxm q hq
            have : aLen s' i q = aLen s i q := by
              unfold aLen
              split
              · split
                · rfl
                · rfl
                · rw [hr _ (by simp [refs])]
                · rfl
              · rfl
              · rfl
            rw [this]; exact h
          · cases h
        · cases h
      · cases h
    · cases h
  · cases h
theorem LS.val (hT : TsOK C.P T) (hw : awant l s o = some true) (hd : dok C.nt o.dst = true) {v : AV} (h : aval T s o = some v) : LS C l s o (mkFx l s o (.val v) []) :=
  LS.quiet [] hw fun s' hl => aop_ok hT hd (aval_aop (aval_loc hl h))
theorem call_mem {fo : Operand} {args : Array Operand} {ats : Array TypeId} (ho : o.op = .call ⟨.value fo, args, ats⟩) : fo ∈ o.op.operands.toList ∧ ∀ x ∈ args.toList, x ∈ o.op.operands.toList := by
  rw [ho]
  constructor
  · simp [Op.operands, Call.operands]
  · intro x hx
    simp [Op.operands, Call.operands]
    exact .inr (by simpa using hx)
theorem LS.call (hw : awant l s o = some true) {fo : Operand} {args : Array Operand} {ats : Array TypeId} (ho : o.op = .call ⟨.value fo, args, ats⟩) (hd : dok C.nt o.dst = true) {f : Nat} (hfo : s.ev fo = some (.imm (.fn f))) {vs : List AV} (hx : evs s args.toList = some vs) {r : AV} (hc : PureC C.P f vs r) (him : vs.all AV.im = true) : LS C l s o (mkFx l s o (.val r) []) :=
  LS.quiet [] hw fun s' hl => by
    obtain ⟨m1, m2⟩ := call_mem ho
    exact OpOK.call ho hd ((hl.ev fo m1).trans hfo) ((hl.evs m2).trans hx) hc him
theorem LS.callcv (hw : awant l s o = some true) {fo : Operand} {args : Array Operand} {ats : Array TypeId} (ho : o.op = .call ⟨.value fo, args, ats⟩) (hd : dok C.nt o.dst = true) {f : Nat} (hfo : s.ev fo = some (.imm (.fn f))) {vs vs' : List AV} (hx : evs s args.toList = some vs) (hcv : vs.map cv = vs') {r : AV} (hc : PureC C.P f vs' r) (him : vs'.all AV.im = true) : LS C l s o (mkFx l s o (.val r) []) :=
  LS.quiet [] hw fun s' hl => by
    obtain ⟨m1, m2⟩ := call_mem ho
    exact OpOK.callcv ho hd ((hl.ev fo m1).trans hfo) ((hl.evs m2).trans hx) hcv hc him
theorem fzv_loc {s s' : St} {v : AV} (h : ∀ p ∈ refs v, nth s'.hp p = nth s.hp p) : fzv s'.hp v = fzv s.hp v := by
  unfold fzv
  split
  · rw [h _ (by simp [refs])]
  · rfl
theorem LS.callfz (hw : awant l s o = some true) {fo : Operand} {args : Array Operand} {ats : Array TypeId} (ho : o.op = .call ⟨.value fo, args, ats⟩) (hd : dok C.nt o.dst = true) {f : Nat} (hfo : s.ev fo = some (.imm (.fn f))) {vs vs' : List AV} (hx : evs s args.toList = some vs) {r : AV} (hc : PureC C.P f vs' r) (hs : r.scal = true) (hfz : fzvs s.hp vs = some vs') : LS C l s o (mkFx l s o (.val r) []) :=
  LS.quiet [] hw fun s' hl => by
    obtain ⟨m1, m2⟩ := call_mem ho
    refine OpOK.callfz ho hd ((hl.ev fo m1).trans hfo) ((hl.evs m2).trans hx) hc hs ?_
    have key : ∀ (xs : List Operand) (vs : List AV), (∀ x ∈ xs, x ∈ o.op.operands.toList) → evs s xs = some vs → fzvs s'.hp vs = fzvs s.hp vs := by
      intro xs
      induction xs with
      | nil => intro vs _ h; simp only [evs, Option.some.injEq] at h; subst h; rfl
      | cons x xs ih =>
        intro vs hm h
        simp only [evs] at h
        split at h
        · cases h
        · rename_i v hv
          split at h
          · cases h
          · rename_i us hus
            obtain rfl := Option.some.inj h
            simp only [fzvs]
            rw [fzv_loc fun p hp => hl.hp x (hm x (by simp)) v hv p hp, ih us (fun y hy => hm y (by simp [hy])) hus]
    rw [key _ _ m2 hx]; exact hfz
theorem LS.ari64 (hw : awant l s o = some true) (hd : dok C.nt o.dst = true) {op : BinOp} {t t2 : TypeId} {x y : Operand} (ho : o.op = .binOp op t x y t2) {m n : Int} (hx : s.ev x = some (.imm (.int .i64 m))) (hy : s.ev y = some (.imm (.int .i64 n))) {z : Int} (h : iAri op m n = some z)
    (h0 : -9223372036854775808 ≤ z) (h1 : z ≤ 9223372036854775807) : LS C l s o (mkFx l s o (.val (.imm (.int .i64 z))) []) :=
  LS.quiet [] hw fun s' hl => OpOK.ari64 hd ho ((hl.ev x (by rw [ho]; simp [Op.operands])).trans hx) ((hl.ev y (by rw [ho]; simp [Op.operands])).trans hy) h h0 h1
theorem LS.index_map (hT : TsOK C.P T) (hw : awant l s o = some true) (hd : dok C.nt o.dst = true) {t e : TypeId} {x y : Operand} (ho : o.op = .indexAddr t x y) {i ie : TI} (hi : look T t = some i) (hk : i.kd = .sl e) (hie : look T e = some ie) {α : Type} [Inhabited α] {f : α → List IV} {xs : List α} {k : IntKind} {j : Int} (hx : s.ev x = some (.imm (.sl (xs.map f)))) (hy : s.ev y = some (.imm (.int k j)))
    (hl : ∀ q, (f q).length = ie.sz) (hpos : 0 < ie.sz) (h0 : 0 ≤ j) (h1 : j < xs.length) : LS C l s o (mkFx l s o (.val (.pin (f (atI xs j)))) []) :=
  LS.quiet [] hw fun s' hl' => OpOK.index_map hT hd ho hi hk hie ((hl'.ev x (by rw [ho]; simp [Op.operands])).trans hx) ((hl'.ev y (by rw [ho]; simp [Op.operands])).trans hy) hl hpos h0 h1
theorem LS.index_own (hT : TsOK C.P T) (hw : awant l s o = some true) (hd : dok C.nt o.dst = true) {t e : TypeId} {x y : Operand} (ho : o.op = .indexAddr t x y) {i ie : TI} (hi : look T t = some i) (hk : i.kd = .sl e) (hie : look T e = some ie) {id n : Nat} {k : IntKind} {j : Int} (hx : s.ev x = some (.os id n)) (hy : s.ev y = some (.imm (.int k j)))
    {b : Blk} (hb : nth s.hp id = some b) (hver : n = b.rows.length) (hsz : b.sz = ie.sz) (h0 : 0 ≤ j) (h1 : j < n) : LS C l s o (mkFx l s o (.val (.ptr id n j.toNat 0)) []) :=
  LS.quiet [] hw fun s' hl' => OpOK.index_own hT hd ho hi hk hie ((hl'.ev x (by rw [ho]; simp [Op.operands])).trans hx) ((hl'.ev y (by rw [ho]; simp [Op.operands])).trans hy) ((hl'.hp x (by rw [ho]; simp [Op.operands]) _ hx id (by simp [refs])).trans hb) hver hsz h0 h1
theorem DW.step {r : List Oper} {s s2 : St} {f : Fx} {fs : List Fx} (h1 : LS C l s o f) {e1 : List (Nat × AV)} {h1' : List Blk} (he : f.ap s = ⟨e1, h1'⟩) (h2 : DW C l r ⟨e1, h1'⟩ fs s2) : DW C l (o :: r) s (f :: fs) s2 := .cons h1 (by rw [he]; exact h2)
/-- The same with nothing left open: what a tactic can build step by step. -/
def DQ (C : Cx) (l r : List Oper) (s : St) (acc : List Fx) (Q : Exit → St → Prop) : Prop := ∃ fs s2, DW C l r s fs s2 ∧ allOK (acc ++ fs) (anc l []) 0 [] = true ∧ Q .normal s2
theorem DQ.step {r : List Oper} {s : St} {acc : List Fx} {o : Oper} {f : Fx} {Q : Exit → St → Prop} (h1 : LS C l s o f) {e1 : List (Nat × AV)} {h1' : List Blk} (he : f.ap s = ⟨e1, h1'⟩) (k : DQ C l r ⟨e1, h1'⟩ (acc ++ [f]) Q) : DQ C l (o :: r) s acc Q := by
  obtain ⟨fs, s2, k1, k2, k3⟩ := k
  exact ⟨f :: fs, s2, .step h1 he k1, by rw [List.append_assoc] at k2; exact k2, k3⟩
theorem DQ.nil {s : St} {acc : List Fx} {Q : Exit → St → Prop} (hok : allOK acc (anc l []) 0 [] = true) (hQ : Q .normal s) : DQ C l [] s acc Q := ⟨[], s, .nil s, by rw [List.append_nil]; exact hok, hQ⟩
theorem AW.drawQ (hm : C.P.follows .mixedOrders = true) {id : Nat} {s : St} {Q : Exit → St → Prop} (hback : backOK l 0 = true) (h : DQ C l l s [] Q) : AW C (.region id l.toArray true) Q s := by
  obtain ⟨fs, s2, k1, k2, k3⟩ := h
  exact AW.draw hm k1 hback k2 k3
end
end Go.Proofs.YteijifoobaoclaaGreat.A
