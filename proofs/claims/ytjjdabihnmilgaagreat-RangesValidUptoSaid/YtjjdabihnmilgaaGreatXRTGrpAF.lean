/- The abstract walk, part Q: single operations in a region that draws its order. -/
import Derived.Test.YtjjdabihnmilgaaGreatXRTGrpAE
import Derived.RangeFuncFrom
import Derived.RangeFuncLeaves
import Derived.TacticsIn
namespace Go.Proofs.YtjjdabihnmilgaaGreat.A
open Go.RowKit
set_option linter.unusedVariables false
set_option linter.unusedSimpArgs false
def refs : AV → List Nat
  | .ptr id _ _ _ => [id]
  | .os id _ => [id]
  | .sub id _ _ _ => [id]
  | _ => []
def tmpsOf : List Operand → List Nat
  | [] => []
  | .tmp t :: r => t :: tmpsOf r
  | _ :: r => tmpsOf r
def refsOf (s : St) : List Operand → List Nat
  | [] => []
  | x :: r => (match s.ev x with
    | some v => refs v ++ refsOf s r
    | none => refsOf s r)
def gds (l : List Oper) (o : Oper) : List Nat :=
  match o.guard with
  | some (j, _) => (match dstOf l j with
    | some d => [d]
    | none => [])
  | none => []
def mkFx (l : List Oper) (s : St) (o : Oper) (d : Dl) (xb : List Nat) : Fx := ⟨o.dst, d, tmpsOf o.op.operands.toList ++ gds l o, refsOf s o.op.operands.toList ++ xb⟩
theorem tmpsOf_mem {t : Nat} : ∀ {xs : List Operand}, Operand.tmp t ∈ xs → t ∈ tmpsOf xs
  | [], h => by cases h
  | x :: r, h => by
    rcases List.mem_cons.1 h with e | e
    · subst e; simp [tmpsOf]
    · have := tmpsOf_mem e
      cases x <;> simp [tmpsOf, this]
theorem refsOf_mem {s : St} {x : Operand} {v : AV} (hv : s.ev x = some v) {p : Nat} (hp : p ∈ refs v) : ∀ {xs : List Operand}, x ∈ xs → p ∈ refsOf s xs
  | [], h => by cases h
  | y :: r, h => by
    simp only [refsOf]
    rcases List.mem_cons.1 h with e | e
    · subst e; rw [hv]; simp [hp]
    · have := refsOf_mem hv hp e
      split
      · simp [this]
      · exact this
/-- s' is as s for what o looks at. -/
structure Loc (l : List Oper) (s s' : St) (o : Oper) (xb : List Nat) : Prop where
  ev : ∀ x ∈ o.op.operands.toList, s'.ev x = s.ev x
  want : awant l s' o = awant l s o
  hp : ∀ x ∈ o.op.operands.toList, ∀ v, s.ev x = some v → ∀ p ∈ refs v, nth s'.hp p = nth s.hp p
  xb : ∀ p ∈ xb, nth s'.hp p = nth s.hp p
  len : s'.hp.length = s.hp.length
theorem Loc.of {l : List Oper} {s s' : St} {o : Oper} {d : Dl} {xb : List Nat} (h1 : ∀ t ∈ (mkFx l s o d xb).rs, get s'.env t = get s.env t) (h2 : ∀ p ∈ (mkFx l s o d xb).rb, s'.hp[p]? = s.hp[p]?) (h3 : s'.hp.length = s.hp.length) : Loc l s s' o xb := by
  refine ⟨fun x hx => ?_, ?_, fun x hx v hv p hp => ?_, fun p hp => ?_, h3⟩
  · cases x with
    | tmp t => exact h1 t (List.mem_append.2 (.inl (tmpsOf_mem hx)))
    | const v => cases v with
      | pointer a => cases a <;> rfl
      | slice a n c => cases a <;> cases n <;> cases c <;> rfl
      | _ => rfl
    | global g => rfl
    | func f => rfl
  · unfold awant
    cases hg : o.guard with
    | none => rfl
    | some z =>
      obtain ⟨j, want⟩ := z
      simp only
      cases hd : dstOf l j with
      | none => rfl
      | some d =>
        simp only
        rw [h1 d (List.mem_append.2 (.inr (by simp [gds, hg, hd])))]
  · rw [nth_eq, nth_eq]
    exact h2 p (List.mem_append.2 (.inl (refsOf_mem hv hp hx)))
  · rw [nth_eq, nth_eq]
    exact h2 p (List.mem_append.2 (.inr hp))
section
variable {C : Cx} {s : St} {o : Oper} {T : List (Nat × TI)} {l : List Oper}
theorem LS.quiet {v : AV} (xb : List Nat) (hw : awant l s o = some true) (h : ∀ s', Loc l s s' o xb → OpOK C s' o (s'.put o.dst v)) : LS C l s o (mkFx l s o (.val v) xb) :=
  ⟨rfl, fun s' h1 h2 h3 => by
    have hl := Loc.of h1 h2 h3
    exact .inl ⟨hl.want.trans hw, h s' hl⟩⟩
theorem LS.blk {p : Nat} {b : Blk} {v : AV} (xb : List Nat) (hw : awant l s o = some true) (h : ∀ s', Loc l s s' o xb → OpOK C s' o (St.put ⟨s'.env, s'.hp.set p b⟩ o.dst v)) : LS C l s o (mkFx l s o (.blk p b v) xb) :=
  ⟨rfl, fun s' h1 h2 h3 => by
    have hl := Loc.of h1 h2 h3
    refine .inl ⟨hl.want.trans hw, ?_⟩
    have := h s' hl
    obtain ⟨e, hh⟩ := s'
    exact this⟩
theorem LS.skip (hw : awant l s o = some false) (hd : dok C.nt o.dst = true) : LS C l s o (mkFx l s o (.val .undef) []) :=
  ⟨rfl, fun s' h1 h2 h3 => by
    have hl := Loc.of h1 h2 h3
    exact .inr ⟨hl.want.trans hw, hd, rfl⟩⟩
theorem Loc.evs {s' : St} {xb : List Nat} (h : Loc l s s' o xb) : ∀ {xs : List Operand}, (∀ x ∈ xs, x ∈ o.op.operands.toList) → evs s' xs = A.evs s xs
  | [], _ => rfl
  | x :: r, hx => by
    simp only [A.evs]
    rw [h.ev x (hx x (by simp)), h.evs fun y hy => hx y (by simp [hy])]
theorem Loc.evps {s' : St} {xb : List Nat} (h : Loc l s s' o xb) : ∀ {xs : List (Nat × Operand)}, (∀ x ∈ xs, x.2 ∈ o.op.operands.toList) → evps s' xs = A.evps s xs
  | [], _ => rfl
  | (i, x) :: r, hx => by
    simp only [A.evps]
    rw [h.ev x (hx (i, x) (by simp)), h.evps fun y hy => hx y (by simp [hy])]
/-- The values that need no more than a look. -/
noncomputable def aval (T : List (Nat × TI)) (s : St) (o : Oper) : Option AV :=
  match o.op with
  | .move x => s.ev x
  | .assign x => s.ev x
  | .pick c x y => (match s.ev c with
    | some (.imm (.bool b)) => s.ev (pk b x y)
    | _ => none)
  | .load t p => (match s.ev p with
    | some q => aLoad T s t q
    | none => none)
  | .fieldAddr t x f => (match s.ev x with
    | some q => (match curB s q with
      | true => aFieldAddr T t f q
      | false => none)
    | none => none)
  | .field t x f => (match s.ev x with
    | some q => aField T t f q
    | none => none)
  | .extract x i => (match s.ev x with
    | some q => aEx i q
    | none => none)
  | .unOp .not t x => (match s.ev x with
    | some (.imm (.bool b)) => some (.imm (.bool !b))
    | _ => none)
  | .binOp op t x y _ => (match s.ev x with
    | some q => (match s.ev y with
      | some r => (match bBin T op t q r with
        | some b => some (.imm (.bool b))
        | none => none)
      | none => none)
    | none => none)
  | .nilCheck x => (match s.ev x with
    | some q => (match isPtr s q with
      | true => some q
      | false => none)
    | none => none)
  | .build t ps => (match look T t with
    | some i => (match i.flds with
      | [] => none
      | _ :: _ => (match evps s ps.toList with
        | some vs => (match aFill (fplace i) i.zero vs with
          | some l => some (.agg l)
          | none => none)
        | none => none))
    | none => none)
  | .call ⟨.builtin .len, args, ats⟩ => (match args.toList with
    | [x] => (match ats.toList with
      | [t] => (match look T t with
        | some i => (match s.ev x with
          | some q => (match aLen s i q with
            | some n => some (.imm (.int .i64 n))
            | none => none)
          | none => none)
        | none => none)
      | _ => none)
    | _ => none)
  | _ => none
theorem aval_aop {v : AV} (h : aval T s o = some v) : aop T s o = some (s.put o.dst v) := by
  unfold aval at h
  unfold aop
  split at h
  · rename_i ho; rw [ho]; simp only; rw [h]; rfl
  · rename_i ho; rw [ho]; simp only; rw [h]; rfl
  · rename_i ho; rw [ho]; simp only
    split at h
    · rename_i b hb; rw [hb]; simp only; rw [h]; rfl
    · cases h
  · rename_i ho; rw [ho]; simp only
    split at h
    · rename_i q hq; rw [hq]; simp only; rw [h]; rfl
    · cases h
  · rename_i ho; rw [ho]; simp only
    split at h
    · rename_i q hq; rw [hq]; simp only
      split at h
      · rename_i hc; rw [hc]; simp only; rw [h]; rfl
      · cases h
    · cases h
  · rename_i ho; rw [ho]; simp only
    split at h
    · rename_i q hq; rw [hq]; simp only; rw [h]; rfl
    · cases h
  · rename_i ho; rw [ho]; simp only
    split at h
    · rename_i q hq; rw [hq]; simp only; rw [h]; rfl
    · cases h
  · rename_i ho; rw [ho]; simp only
    split at h
    · rename_i b hb; rw [hb]; obtain rfl := Option.some.inj h; rfl
    · cases h
  · rename_i ho; rw [ho]; simp only
    split at h
    · rename_i q hq; rw [hq]; simp only
      split at h
      · rename_i r hr; rw [hr]; simp only
        split at h
        · rename_i b hb; rw [hb]; obtain rfl := Option.some.inj h; rfl
        · cases h
      · cases h
    · cases h
  · rename_i ho; rw [ho]; simp only
    split at h
    · rename_i q hq; rw [hq]; simp only
      split at h
      · rename_i hc; rw [hc]; obtain rfl := Option.some.inj h; rfl
      · cases h
    · cases h
  · rename_i ho; rw [ho]; simp only
    split at h
    · rename_i i hi; rw [hi]; simp only
      split at h
      · cases h
      · rename_i f fs hf; rw [hf]; simp only
        split at h
        · rename_i vs hvs; rw [hvs]; simp only
          split at h
          · rename_i q hq; rw [hq]; obtain rfl := Option.some.inj h; rfl
          · cases h
        · cases h
    · cases h
  · rename_i ho; rw [ho]; simp only
    split at h
    · rename_i x hx; rw [hx]; simp only
      split at h
      · rename_i t ht; rw [ht]; simp only
        split at h
        · rename_i i hi; rw [hi]; simp only
          split at h
          · rename_i q hq; rw [hq]; simp only
            split at h
            · rename_i n hn; rw [hn]; obtain rfl := Option.some.inj h; rfl
            · cases h
          · cases h
        · cases h
      · cases h
    · cases h
  · cases h
theorem aval_loc {s' : St} {xb : List Nat} (hl : Loc l s s' o xb) {v : AV} (h : aval T s o = some v) : aval T s' o = some v := by
  have hev := hl.ev
  have hhp := hl.hp
  unfold aval at h ⊢
  split at h
  · rename_i x ho; rw [ho] at hev; rw [hev x (by simp [Op.operands])]; exact h
  · rename_i x ho; rw [ho] at hev; rw [hev x (by simp [Op.operands])]; exact h
  · rename_i c x y ho; rw [ho] at hev; rw [hev c (by simp [Op.operands])]
    split at h
    · rename_i b hb
      rw [hev (pk b x y) (by cases b <;> simp [Op.operands, pk])]; exact h
    · cases h
  · rename_i t p ho
    rw [ho] at hev hhp; rw [hev p (by simp [Op.operands])]
    split at h
    · rename_i q hq
      have hr := hhp p (by simp [Op.operands]) q hq
      unfold aLoad at h ⊢
      split at h
      · cases h
      · rename_i i hi
        split at h
        · rename_i id ver row off
          rw [hr id (by simp [refs])]; exact h
        · exact h
        · cases h
    · cases h
  · rename_i t x f ho
    rw [ho] at hev hhp; rw [hev x (by simp [Op.operands])]
    split at h
    · rename_i q hq
      have hr := hhp x (by simp [Op.operands]) q hq
      have : curB s' q = curB s q := by
        unfold curB
        split
        · rw [hr _ (by simp [refs])]
        · rfl
      rw [this]; exact h
    · cases h
  · rename_i t x f ho
    rw [ho] at hev; rw [hev x (by simp [Op.operands])]; exact h
  · rename_i x i ho
    rw [ho] at hev; rw [hev x (by simp [Op.operands])]; exact h
  · rename_i t x ho
    rw [ho] at hev; rw [hev x (by simp [Op.operands])]; exact h
  · rename_i op t x y t2 ho
    rw [ho] at hev; rw [hev x (by simp [Op.operands]), hev y (by simp [Op.operands])]; exact h
  · rename_i x ho
    rw [ho] at hev hhp; rw [hev x (by simp [Op.operands])]
    split at h
    · rename_i q hq
      have hr := hhp x (by simp [Op.operands]) q hq
      have : isPtr s' q = isPtr s q := by
        unfold isPtr
        split
        · rw [hr _ (by simp [refs])]
        all_goals rfl
      rw [this]; exact h
    · cases h
  · rename_i t ps ho
    have := hl.evps (xs := ps.toList) (fun x hx => by
      rw [ho]
      simp only [Op.operands]
      exact List.mem_map.2 ⟨x, hx, rfl⟩)
    rw [this]; exact h
  · rename_i args ats ho
    rw [ho] at hev hhp
    split at h
    · rename_i x hx
      have hxm : x ∈ (Op.call ⟨.builtin .len, args, ats⟩).operands.toList := by simp [Op.operands, Call.operands, hx]
      split at h
      · rename_i t ht
        split at h
        · rename_i i hi
          rw [hev x hxm]
          split at h
          · rename_i q hq
            have hr := hhp x hxm q hq
            have : aLen s' i q = aLen s i q := by
              unfold aLen
              split
              · split
                · rfl
                · rfl
                · rw [hr _ (by simp [refs])]
                · rfl
              · rfl
              · rfl
            rw [this]; exact h
          · cases h
        · cases h
      · cases h
    · cases h
  · cases h
theorem LS.val (hT : TsOK C.P T) (hw : awant l s o = some true) (hd : dok C.nt o.dst = true) {v : AV} (h : aval T s o = some v) : LS C l s o (mkFx l s o (.val v) []) :=
  LS.quiet [] hw fun s' hl => aop_ok hT hd (aval_aop (aval_loc hl h))
theorem call_mem {fo : Operand} {args : Array Operand} {ats : Array TypeId} (ho : o.op = .call ⟨.value fo, args, ats⟩) : fo ∈ o.op.operands.toList ∧ ∀ x ∈ args.toList, x ∈ o.op.operands.toList := by
  rw [ho]
  constructor
  · simp [Op.operands, Call.operands]
  · intro x hx
    simp [Op.operands, Call.operands]
    exact .inr (by simpa using hx)
theorem LS.call (hw : awant l s o = some true) {fo : Operand} {args : Array Operand} {ats : Array TypeId} (ho : o.op = .call ⟨.value fo, args, ats⟩) (hd : dok C.nt o.dst = true) {f : Nat} (hfo : s.ev fo = some (.imm (.fn f))) {vs : List AV} (hx : evs s args.toList = some vs) {r : AV} (hc : PureC C.P f vs r) (him : vs.all AV.im = true) : LS C l s o (mkFx l s o (.val r) []) :=
  LS.quiet [] hw fun s' hl => by
    obtain ⟨m1, m2⟩ := call_mem ho
    exact OpOK.call ho hd ((hl.ev fo m1).trans hfo) ((hl.evs m2).trans hx) hc him
theorem LS.callcv (hw : awant l s o = some true) {fo : Operand} {args : Array Operand} {ats : Array TypeId} (ho : o.op = .call ⟨.value fo, args, ats⟩) (hd : dok C.nt o.dst = true) {f : Nat} (hfo : s.ev fo = some (.imm (.fn f))) {vs vs' : List AV} (hx : evs s args.toList = some vs) (hcv : vs.map cv = vs') {r : AV} (hc : PureC C.P f vs' r) (him : vs'.all AV.im = true) : LS C l s o (mkFx l s o (.val r) []) :=
  LS.quiet [] hw fun s' hl => by
    obtain ⟨m1, m2⟩ := call_mem ho
    exact OpOK.callcv ho hd ((hl.ev fo m1).trans hfo) ((hl.evs m2).trans hx) hcv hc him
theorem fzv_loc {s s' : St} {v : AV} (h : ∀ p ∈ refs v, nth s'.hp p = nth s.hp p) : fzv s'.hp v = fzv s.hp v := by
  unfold fzv
  split
  · rw [h _ (by simp [refs])]
  · rfl
theorem LS.callfz (hw : awant l s o = some true) {fo : Operand} {args : Array Operand} {ats : Array TypeId} (ho : o.op = .call ⟨.value fo, args, ats⟩) (hd : dok C.nt o.dst = true) {f : Nat} (hfo : s.ev fo = some (.imm (.fn f))) {vs vs' : List AV} (hx : evs s args.toList = some vs) {r : AV} (hc : PureC C.P f vs' r) (hs : r.scal = true) (hfz : fzvs s.hp vs = some vs') : LS C l s o (mkFx l s o (.val r) []) :=
  LS.quiet [] hw fun s' hl => by
    obtain ⟨m1, m2⟩ := call_mem ho
    refine OpOK.callfz ho hd ((hl.ev fo m1).trans hfo) ((hl.evs m2).trans hx) hc hs ?_
    have key : ∀ (xs : List Operand) (vs : List AV), (∀ x ∈ xs, x ∈ o.op.operands.toList) → evs s xs = some vs → fzvs s'.hp vs = fzvs s.hp vs := by
      intro xs
      induction xs with
      | nil => intro vs _ h; simp only [evs, Option.some.injEq] at h; subst h; rfl
      | cons x xs ih =>
        intro vs hm h
        simp only [evs] at h
        split at h
        · cases h
        · rename_i v hv
          split at h
          · cases h
          · rename_i us hus
            obtain rfl := Option.some.inj h
            simp only [fzvs]
            rw [fzv_loc fun p hp => hl.hp x (hm x (by simp)) v hv p hp, ih us (fun y hy => hm y (by simp [hy])) hus]
    rw [key _ _ m2 hx]; exact hfz
theorem LS.ari64 (hw : awant l s o = some true) (hd : dok C.nt o.dst = true) {op : BinOp} {t t2 : TypeId} {x y : Operand} (ho : o.op = .binOp op t x y t2) {m n : Int} (hx : s.ev x = some (.imm (.int .i64 m))) (hy : s.ev y = some (.imm (.int .i64 n))) {z : Int} (h : iAri op m n = some z)
    (h0 : -9223372036854775808 ≤ z) (h1 : z ≤ 9223372036854775807) : LS C l s o (mkFx l s o (.val (.imm (.int .i64 z))) []) :=
  LS.quiet [] hw fun s' hl => OpOK.ari64 hd ho ((hl.ev x (by rw [ho]; simp [Op.operands])).trans hx) ((hl.ev y (by rw [ho]; simp [Op.operands])).trans hy) h h0 h1
theorem LS.index_map (hT : TsOK C.P T) (hw : awant l s o = some true) (hd : dok C.nt o.dst = true) {t e : TypeId} {x y : Operand} (ho : o.op = .indexAddr t x y) {i ie : TI} (hi : look T t = some i) (hk : i.kd = .sl e) (hie : look T e = some ie) {α : Type} [Inhabited α] {f : α → List IV} {xs : List α} {k : IntKind} {j : Int} (hx : s.ev x = some (.imm (.sl (xs.map f)))) (hy : s.ev y = some (.imm (.int k j)))
    (hl : ∀ q, (f q).length = ie.sz) (hpos : 0 < ie.sz) (h0 : 0 ≤ j) (h1 : j < xs.length) : LS C l s o (mkFx l s o (.val (.pin (f (atI xs j)))) []) :=
  LS.quiet [] hw fun s' hl' => OpOK.index_map hT hd ho hi hk hie ((hl'.ev x (by rw [ho]; simp [Op.operands])).trans hx) ((hl'.ev y (by rw [ho]; simp [Op.operands])).trans hy) hl hpos h0 h1
theorem LS.index_own (hT : TsOK C.P T) (hw : awant l s o = some true) (hd : dok C.nt o.dst = true) {t e : TypeId} {x y : Operand} (ho : o.op = .indexAddr t x y) {i ie : TI} (hi : look T t = some i) (hk : i.kd = .sl e) (hie : look T e = some ie) {id n : Nat} {k : IntKind} {j : Int} (hx : s.ev x = some (.os id n)) (hy : s.ev y = some (.imm (.int k j)))
    {b : Blk} (hb : nth s.hp id = some b) (hver : n = b.rows.length) (hsz : b.sz = ie.sz) (h0 : 0 ≤ j) (h1 : j < n) : LS C l s o (mkFx l s o (.val (.ptr id n j.toNat 0)) []) :=
  LS.quiet [] hw fun s' hl' => OpOK.index_own hT hd ho hi hk hie ((hl'.ev x (by rw [ho]; simp [Op.operands])).trans hx) ((hl'.ev y (by rw [ho]; simp [Op.operands])).trans hy) ((hl'.hp x (by rw [ho]; simp [Op.operands]) _ hx id (by simp [refs])).trans hb) hver hsz h0 h1
theorem DW.step {r : List Oper} {s s2 : St} {f : Fx} {fs : List Fx} (h1 : LS C l s o f) {e1 : List (Nat × AV)} {h1' : List Blk} (he : f.ap s = ⟨e1, h1'⟩) (h2 : DW C l r ⟨e1, h1'⟩ fs s2) : DW C l (o :: r) s (f :: fs) s2 := .cons h1 (by rw [he]; exact h2)
/-- The same with nothing left open: what a tactic can build step by step. -/
def DQ (C : Cx) (l r : List Oper) (s : St) (acc : List Fx) (Q : Exit → St → Prop) : Prop := ∃ fs s2, DW C l r s fs s2 ∧ allOK (acc ++ fs) (anc l []) 0 [] = true ∧ Q .normal s2
theorem DQ.step {r : List Oper} {s : St} {acc : List Fx} {o : Oper} {f : Fx} {Q : Exit → St → Prop} (h1 : LS C l s o f) {e1 : List (Nat × AV)} {h1' : List Blk} (he : f.ap s = ⟨e1, h1'⟩) (k : DQ C l r ⟨e1, h1'⟩ (acc ++ [f]) Q) : DQ C l (o :: r) s acc Q := by
  obtain ⟨fs, s2, k1, k2, k3⟩ := k
  exact ⟨f :: fs, s2, .step h1 he k1, by rw [List.append_assoc] at k2; exact k2, k3⟩
theorem DQ.nil {s : St} {acc : List Fx} {Q : Exit → St → Prop} (hok : allOK acc (anc l []) 0 [] = true) (hQ : Q .normal s) : DQ C l [] s acc Q := ⟨[], s, .nil s, by rw [List.append_nil]; exact hok, hQ⟩
theorem AW.drawQ (hm : C.P.follows .mixedOrders = true) {id : Nat} {s : St} {Q : Exit → St → Prop} (hback : backOK l 0 = true) (h : DQ C l l s [] Q) : AW C (.region id l.toArray true) Q s := by
  obtain ⟨fs, s2, k1, k2, k3⟩ := h
  exact AW.draw hm k1 hback k2 k3
end
end Go.Proofs.YtjjdabihnmilgaaGreat.A
namespace Go.Proofs.YtjjdabihnmilgaaGreat.A
open Go.RowKit
set_option linter.unusedVariables false
set_option linter.unusedSimpArgs false
def ren0 (ρ : Nat → Nat) : AV → AV
  | .ptr id v r o => .ptr (ρ id) v r o
  | .os id n => .os (ρ id) n
  | .sub id v o n => .sub (ρ id) v o n
  | v => v
def ren1 (ρ : Nat → Nat) : AV → AV
  | .fn f caps => .fn f (caps.map (ren0 ρ))
  | .agg l => .agg (l.map (ren0 ρ))
  | .tup l => .tup (l.map (ren0 ρ))
  | v => ren0 ρ v
def ren (ρ : Nat → Nat) : AV → AV
  | .fn f caps => .fn f (caps.map (ren1 ρ))
  | .agg l => .agg (l.map (ren1 ρ))
  | .tup l => .tup (l.map (ren1 ρ))
  | v => ren1 ρ v
def renB (ρ : Nat → Nat) (b : Blk) : Blk := ⟨b.ty, b.sz, b.rows.map (·.map (ren1 ρ))⟩
/-- From numbers of the one to numbers of the other: what there is is the same. -/
structure Tr (k : Nat) (ρ : Nat → Nat) (M M' : Mm) : Prop where
  W : M'.W = M.W
  N : ∀ b, M'.N b → M.N b
  hp : ∀ i b, i < k → M.hp[i]? = some b → ∃ b', M'.hp[ρ i]? = some b' ∧ b'.sz = b.sz ∧ b'.rows.length = b.rows.length
  γ : ∀ i, i < k → M'.γ (ρ i) = M.γ i
  κ : ∀ i, i < k → M'.κ (ρ i) = M.κ i
section
variable {k : Nat} {ρ : Nat → Nat} {M M' : Mm}
theorem Tr.imm (h : Tr k ρ M M') : ∀ b, ¬ M.N b → (∃ o, M.W.heap[b]? = some o) → M'.W.heap[b]? = M.W.heap[b]? ∧ ¬ M'.N b := fun b hb _ => ⟨by rw [h.W], fun hn => hb (h.N b hn)⟩
theorem all2_map {R S : AV → Value → Prop} {f : AV → AV} {g : AV → Bool} (h : ∀ v x, R v x → g v = true → S (f v) x) {l : List AV} {xs : List Value} (hl : All2 R l xs) (hg : l.all g = true) : All2 S (l.map f) xs := by
  induction hl with
  | nil => exact .nil
  | cons h1 _ ih =>
    simp only [List.all_cons, Bool.and_eq_true] at hg
    exact .cons (h _ _ h1 hg.1) (ih hg.2)
theorem Tr.r0 (h : Tr k ρ M M') {v : AV} {x : Value} (hr : RepA M v x) (hs : v.sc0 k = true) : RepA M' (ren0 ρ v) x := by
  cases hr with
  | imm v x hr => exact .imm _ _ (hr.keep h.imm)
  | nils => exact .nils
  | nocap A => exact .nocap A
  | undef => exact .undef
  | mp g ks vs hl => exact .mp g ks vs (hl.keep h.imm)
  | mpi g ks vs hl => exact .mpi g ks vs (hl.keep h.imm)
  | pin l ad ys h0 hb hy hl =>
    refine .pin l ad ys h0 (fun hn => hb (h.N _ hn)) ?_ (hl.mono fun _ _ hr => hr.keep h.imm)
    rw [h.W]; exact hy
  | ptr id ver row off b q hb hv hx =>
    have hk : id < k := by simpa [AV.sc0] using hs
    obtain ⟨b', e1, e2, e3⟩ := h.hp id b hk hb
    refine .ptr _ ver row off b' q e1 (by omega) fun hver => ?_
    obtain ⟨g, h1, h2⟩ := hx (by omega)
    exact ⟨g, by rw [h.γ id hk]; exact h1, by rw [e2]; exact h2⟩
  | os id n b A c d hb hv hx =>
    have hk : id < k := by simpa [AV.sc0] using hs
    obtain ⟨b', e1, e2, e3⟩ := h.hp id b hk hb
    refine .os _ n b' A c d e1 (by omega) fun hver => ?_
    rw [h.γ id hk, h.κ id hk]
    exact hx (by omega)
  | sub id ver off n b A c hb hv hx hc =>
    have hk : id < k := by simpa [AV.sc0] using hs
    obtain ⟨b', e1, e2, e3⟩ := h.hp id b hk hb
    refine .sub _ ver off n b' A c e1 (by omega) (fun hver => ?_) hc
    obtain ⟨h1, h2⟩ := hx (by omega)
    refine ⟨h1, fun hn => ?_⟩
    obtain ⟨g, hg, hA⟩ := h2 hn
    exact ⟨g, by rw [h.γ id hk]; exact hg, by rw [e2]; exact hA⟩
  | _ => simp [AV.sc0] at hs
theorem Tr.r1 (h : Tr k ρ M M') {v : AV} {x : Value} (hr : RepA M v x) (hs : v.sc1 k = true) : RepA M' (ren1 ρ v) x := by
  have h0 : ∀ v x, RepA M v x → v.sc0 k = true → RepA M' (ren0 ρ v) x := fun v x hr hs => h.r0 hr hs
  cases hr with
  | fn f caps xs hr => exact .fn f _ xs (all2_map h0 hr hs)
  | agg l xs hr => exact .agg _ xs (all2_map h0 hr hs)
  | tup l xs hr => exact .tup _ xs (all2_map h0 hr hs)
  | imm v x hr => exact h0 (.imm v) _ (.imm _ _ hr) hs
  | nils => exact h0 .nils _ .nils hs
  | nocap A => exact h0 .nocap _ (.nocap A) hs
  | undef => exact h0 .undef _ .undef hs
  | mp g ks vs a1 => exact h0 (.mp g ks vs) _ (.mp g ks vs a1) hs
  | mpi g ks vs a1 => exact h0 (.mpi ks vs) _ (.mpi g ks vs a1) hs
  | pin l ad ys a1 a2 a3 a4 => exact h0 (.pin l) _ (.pin l ad ys a1 a2 a3 a4) hs
  | ptr id ver row off b q a1 a2 a3 => exact h0 (.ptr id ver row off) _ (.ptr id ver row off b q a1 a2 a3) hs
  | os id n b A c d a1 a2 a3 => exact h0 (.os id n) _ (.os id n b A c d a1 a2 a3) hs
  | sub id v o n b A c a1 a2 a3 a4 => exact h0 (.sub id v o n) _ (.sub id v o n b A c a1 a2 a3 a4) hs
theorem Tr.r (h : Tr k ρ M M') {v : AV} {x : Value} (hr : RepA M v x) (hs : v.sc k = true) : RepA M' (ren ρ v) x := by
  have h0 : ∀ v x, RepA M v x → v.sc1 k = true → RepA M' (ren1 ρ v) x := fun v x hr hs => h.r1 hr hs
  cases hr with
  | fn f caps xs hr => exact .fn f _ xs (all2_map h0 hr hs)
  | agg l xs hr => exact .agg _ xs (all2_map h0 hr hs)
  | tup l xs hr => exact .tup _ xs (all2_map h0 hr hs)
  | imm v x hr => exact h0 (.imm v) _ (.imm _ _ hr) hs
  | nils => exact h0 .nils _ .nils hs
  | nocap A => exact h0 .nocap _ (.nocap A) hs
  | undef => exact h0 .undef _ .undef hs
  | mp g ks vs a1 => exact h0 (.mp g ks vs) _ (.mp g ks vs a1) hs
  | mpi g ks vs a1 => exact h0 (.mpi ks vs) _ (.mpi g ks vs a1) hs
  | pin l ad ys a1 a2 a3 a4 => exact h0 (.pin l) _ (.pin l ad ys a1 a2 a3 a4) hs
  | ptr id ver row off b q a1 a2 a3 => exact h0 (.ptr id ver row off) _ (.ptr id ver row off b q a1 a2 a3) hs
  | os id n b A c d a1 a2 a3 => exact h0 (.os id n) _ (.os id n b A c d a1 a2 a3) hs
  | sub id v o n b A c a1 a2 a3 a4 => exact h0 (.sub id v o n) _ (.sub id v o n b A c a1 a2 a3 a4) hs
/-- .. and back: what is named by the new numbers, read by the old ones. -/
structure Ti (k : Nat) (ρ : Nat → Nat) (M M' : Mm) : Prop where
  W : M.W = M'.W
  N : ∀ b, M.N b → M'.N b
  hp : ∀ i b', i < k → M'.hp[ρ i]? = some b' → ∃ b, M.hp[i]? = some b ∧ b'.sz = b.sz ∧ b'.rows.length = b.rows.length
  γ : ∀ i, i < k → M'.γ (ρ i) = M.γ i
  κ : ∀ i, i < k → M'.κ (ρ i) = M.κ i
theorem Ti.imm (h : Ti k ρ M M') : ∀ b, ¬ M'.N b → (∃ o, M'.W.heap[b]? = some o) → M.W.heap[b]? = M'.W.heap[b]? ∧ ¬ M.N b := fun b hb _ => ⟨by rw [h.W], fun hn => hb (h.N b hn)⟩
theorem all2_unmap {R S : AV → Value → Prop} {f : AV → AV} {g : AV → Bool} (h : ∀ v x, R (f v) x → g v = true → S v x) : ∀ {l : List AV} {xs : List Value} (hl : All2 R (l.map f) xs) (hg : l.all g = true), All2 S l xs
  | [], xs, hl, hg => by cases hl; exact .nil
  | v :: l, xs, hl, hg => by
    cases hl with
    | cons h1 h2 =>
      simp only [List.all_cons, Bool.and_eq_true] at hg
      exact .cons (h _ _ h1 hg.1) (all2_unmap h h2 hg.2)
theorem Ti.r0 (h : Ti k ρ M M') {v : AV} {x : Value} (hr : RepA M' (ren0 ρ v) x) (hs : v.sc0 k = true) : RepA M v x := by
  cases v with
  | imm v => cases hr with | imm _ _ hr => exact .imm _ _ (hr.keep h.imm)
  | nils => cases hr; exact .nils
  | nocap => cases hr; exact .nocap _
  | undef => cases hr; exact .undef
  | mp g ks vs => cases hr with | mp _ _ _ hl => exact .mp g ks vs (hl.keep h.imm)
  | mpi ks vs => cases hr with | mpi _ _ _ hl => exact .mpi _ ks vs (hl.keep h.imm)
  | pin l =>
    cases hr with
    | pin _ ad ys h0 hb hy hl =>
      refine .pin l ad ys h0 (fun hn => hb (h.N _ hn)) ?_ (hl.mono fun _ _ hr => hr.keep h.imm)
      rw [h.W]; exact hy
  | ptr id ver row off =>
    have hk : id < k := by simpa [AV.sc0] using hs
    cases hr with
    | ptr _ _ _ _ b q hb hv hx =>
      obtain ⟨b', e1, e2, e3⟩ := h.hp id b hk hb
      refine .ptr _ ver row off b' q e1 (by omega) fun hver => ?_
      obtain ⟨g, h1, h2⟩ := hx (by omega)
      exact ⟨g, by rw [← h.γ id hk]; exact h1, by rw [← e2]; exact h2⟩
  | os id n =>
    have hk : id < k := by simpa [AV.sc0] using hs
    cases hr with
    | os _ _ b A c d hb hv hx =>
      obtain ⟨b', e1, e2, e3⟩ := h.hp id b hk hb
      refine .os _ n b' A c d e1 (by omega) fun hver => ?_
      rw [← h.γ id hk, ← h.κ id hk]
      exact hx (by omega)
  | sub id ver off n =>
    have hk : id < k := by simpa [AV.sc0] using hs
    cases hr with
    | sub _ _ _ _ b A c hb hv hx hc =>
      obtain ⟨b', e1, e2, e3⟩ := h.hp id b hk hb
      refine .sub _ ver off n b' A c e1 (by omega) (fun hver => ?_) hc
      obtain ⟨h1, h2⟩ := hx (by omega)
      refine ⟨h1, fun hn => ?_⟩
      obtain ⟨g, hg, hA⟩ := h2 hn
      exact ⟨g, by rw [← h.γ id hk]; exact hg, by rw [← e2]; exact hA⟩
  | _ => simp [AV.sc0] at hs
theorem Ti.r1 (h : Ti k ρ M M') {v : AV} {x : Value} (hr : RepA M' (ren1 ρ v) x) (hs : v.sc1 k = true) : RepA M v x := by
  have h0 : ∀ v x, RepA M' (ren0 ρ v) x → v.sc0 k = true → RepA M v x := fun v x hr hs => h.r0 hr hs
  cases v with
  | fn f caps => cases hr with | fn _ _ xs hr => exact .fn f _ xs (all2_unmap h0 hr hs)
  | agg l => cases hr with | agg _ xs hr => exact .agg _ xs (all2_unmap h0 hr hs)
  | tup l => cases hr with | tup _ xs hr => exact .tup _ xs (all2_unmap h0 hr hs)
  | _ => exact h0 _ _ hr hs
theorem Ti.r (h : Ti k ρ M M') {v : AV} {x : Value} (hr : RepA M' (ren ρ v) x) (hs : v.sc k = true) : RepA M v x := by
  have h0 : ∀ v x, RepA M' (ren1 ρ v) x → v.sc1 k = true → RepA M v x := fun v x hr hs => h.r1 hr hs
  cases v with
  | fn f caps => cases hr with | fn _ _ xs hr => exact .fn f _ xs (all2_unmap h0 hr hs)
  | agg l => cases hr with | agg _ xs hr => exact .agg _ xs (all2_unmap h0 hr hs)
  | tup l => cases hr with | tup _ xs hr => exact .tup _ xs (all2_unmap h0 hr hs)
  | _ => exact h0 _ _ hr hs
end
def noact : Act := ⟨#[], []⟩
/-- A function that is lent blocks: it comes to r, the blocks then are hp1 (those that were lent first). -/
def cxG (P : Program) (X : Nat → Prop) (hp0 : List Blk) (γ : Nat → Option Nat) (κ : Nat → Nat) (W : World) (nt : Nat) : Cx := ⟨P, X, hp0, γ, κ, fun g => ∃ i, i < hp0.length ∧ γ i = some g, W, nt⟩
def GenC (P : Program) (f : FuncId) (hp0 : List Blk) (args : List AV) (r : AV) (hp1 : List Blk) : Prop :=
  Callable P f ∧ ∀ (W : World) (X : Nat → Prop) (γ : Nat → Option Nat) (κ : Nat → Nat) (xs : List Value), Conc (cxG P X hp0 γ κ W 0) ⟨[], hp0⟩ γ κ noact W → All2 (RepA (St.mm ⟨[], hp0⟩ (cxG P X hp0 γ κ W 0) γ κ W)) args xs →
    Calls P f xs.toArray W fun e W' => ∃ x γ1 κ1, e = .returned x ∧ Conc (cxG P X hp0 γ κ W 0) ⟨[], hp1⟩ γ1 κ1 noact W' ∧ RepA (St.mm ⟨[], hp1⟩ (cxG P X hp0 γ κ W 0) γ1 κ1 W') r x
def RG (C : Cx) (T : List (Nat × TI)) (rs : List ResultVar) (r : AV) (hp1 : List Blk) : Exit → St → Prop
  | .ret, s => ∃ qs k, ares T s rs = some qs ∧ pack qs = r ∧ hp1 = s.hp.take k ∧ r.sc k = true ∧ hp1.all (fun b => b.rows.all fun r => r.all (AV.sc1 k)) = true ∧ C.hp0.length ≤ k
  | .normal, s => ∃ qs k, ares T s rs = some qs ∧ pack qs = r ∧ hp1 = s.hp.take k ∧ r.sc k = true ∧ hp1.all (fun b => b.rows.all fun r => r.all (AV.sc1 k)) = true ∧ C.hp0.length ≤ k
  | _, _ => False
theorem RG.ret {C : Cx} {T : List (Nat × TI)} {rs : List ResultVar} {r : AV} {hp1 : List Blk} {s : St} {qs : List AV} (k : Nat) (h1 : ares T s rs = some qs) (h2 : pack qs = r) (h3 : hp1 = s.hp.take k) (h4 : r.sc k = true) (h5 : hp1.all (fun b => b.rows.all fun r => r.all (AV.sc1 k)) = true) (h6 : C.hp0.length ≤ k) : RG C T rs r hp1 .ret s := ⟨qs, k, h1, h2, h3, h4, h5, h6⟩
theorem RG.norm {C : Cx} {T : List (Nat × TI)} {rs : List ResultVar} {r : AV} {hp1 : List Blk} {s : St} {qs : List AV} (k : Nat) (h1 : ares T s rs = some qs) (h2 : pack qs = r) (h3 : hp1 = s.hp.take k) (h4 : r.sc k = true) (h5 : hp1.all (fun b => b.rows.all fun r => r.all (AV.sc1 k)) = true) (h6 : C.hp0.length ≤ k) : RG C T rs r hp1 .normal s := ⟨qs, k, h1, h2, h3, h4, h5, h6⟩
theorem GenC.mk {P : Program} {f : FuncId} {fn : Func} {c : Code} {hp0 : List Blk} {args : List AV} {r : AV} {hp1 : List Blk} {T : List (Nat × TI)} (hT : TsOK P T) (hf : P.funcs[f]? = some fn) (nt : Nat) (rs : List ResultVar) (hb : fn.body = some c) (hn : (fn.name == "runtime.NumGoroutine") = false) (hnt : fn.ntmps = nt) (hrs : fn.results.toList = rs) (hlen : Nat.ble (len args) nt = true)
    (h : ∀ w0 X γ κ, AW (cxG P X hp0 γ κ w0 nt) c (RG (cxG P X hp0 γ κ w0 nt) T rs r hp1) ⟨params 0 args, hp0⟩) : GenC P f hp0 args r hp1 := by
  subst hnt hrs
  have hlen := Nat.le_of_ble_eq_true hlen
  rw [len_eq] at hlen
  refine ⟨fun asx w => ?_, fun W X γ κ xs hC0 hargs => ?_⟩
  · unfold callFunc
    have hp : (program).run P w = .ok P w := rfl
    rw [run_bind hp, hf]
    simp only [hn, hb]
    rfl
  · refine calls_of_wp hf hb ?_
    have hl := hargs.length
    have hC : Conc (cxG P X hp0 γ κ W fn.ntmps) ⟨params 0 args, hp0⟩ γ κ { tmps := xs.toArray ++ Array.replicate (fn.ntmps - xs.toArray.size) undef, defers := [] } W := by
      refine ⟨?_, rfl, ?_, hC0.blk, hC0.inj, hC0.own, hC0.xlt, hC0.old, hC0.hos, hC0.htape, hC0.hout, hC0.hsize, hC0.lent⟩
      · simp [cxG]; omega
      · intro t v hv
        obtain ⟨_, h2⟩ := params_get args 0 t v hv
        simp only [Nat.sub_zero] at h2
        obtain ⟨x, h3, h4⟩ := hargs.get h2
        refine ⟨x, ?_, h4⟩
        simp only
        rw [Array.getElem?_append_left (by simpa using (List.getElem?_eq_some_iff.1 h3).1)]
        simpa using h3
    refine wp_mono (h W X γ κ _ _ _ _ hC) ?_
    rintro e a' W' ⟨s', γ', κ', hC', hQ⟩
    have fin : ∀ qs k, ares T s' fn.results.toList = some qs → pack qs = r → hp1 = s'.hp.take k → r.sc k = true → hp1.all (fun b => b.rows.all fun r => r.all (AV.sc1 k)) = true → hp0.length ≤ k → a'.defers = [] ∧ ∃ v, (results fn a'.tmps).run P W' = .ok v W' ∧ ∃ x γ1 κ1, Ending.returned v = .returned x ∧ Conc (cxG P X hp0 γ κ W 0) ⟨[], hp1⟩ γ1 κ1 noact W' ∧ RepA (St.mm ⟨[], hp1⟩ (cxG P X hp0 γ κ W 0) γ1 κ1 W') r x := by
      intro qs k h1 h2 h3 h4 h5 h6
      obtain ⟨ys, h7, h8⟩ := results_run hT hC' h1
      have hq := pack_rep h8
      rw [h2] at hq
      subst h3
      have hcut : Conc (cxG P X hp0 γ κ W fn.ntmps) ⟨[], s'.hp.take k⟩ γ' κ' a' W' ∧ RepA (St.mm ⟨[], s'.hp.take k⟩ (cxG P X hp0 γ κ W fn.ntmps) γ' κ' W') r (pack' ys) := by
        have hle := Le.cut (C := cxG P X hp0 γ κ W fn.ntmps) (s := s') k (s1 := ⟨[], s'.hp.take k⟩) rfl trivial rfl h5 h6
        refine ⟨Le.cut_same k rfl trivial rfl h5 h6 hC', ?_⟩
        refine sc_keep (M := s'.mm (cxG P X hp0 γ κ W fn.ntmps) γ' κ' W') (M' := St.mm ⟨[], s'.hp.take k⟩ (cxG P X hp0 γ κ W fn.ntmps) γ' κ' W') (k := k) rfl ?_ rfl rfl (fun id hi => List.getElem?_take_of_lt hi) hq h4
        rintro b (hb | ⟨i, hi, hg⟩)
        · exact .inl hb
        · exact .inr ⟨i, by simp at hi; omega, hg⟩
      refine ⟨hC'.defers, pack' ys, ?_, _, γ', κ', rfl, ?_, hcut.2⟩
      · unfold results
        rw [Array.mapM_eq_mapM_toList]
        have h3' := run_bind (P := P) (f := fun vs : List Value => (pure vs.toArray : Sem (Array Value))) h7
        have h5 : ((List.toArray <$> fn.results.toList.mapM (m := Sem) fun | .tmp t => pure (a'.tmps.getD t undef) | .cell b t => do loadVar t (← asAddr (a'.tmps.getD b undef))) : Sem (Array Value)).run P W' = .ok ys.toArray W' := by
          rw [map_eq_pure_bind]
          exact h3'
        refine (run_bind h5).trans ?_
        rcases ys with _ | ⟨y, _ | ⟨y2, ys⟩⟩
        · rfl
        · rfl
        · rw [dif_neg (by simp)]
          rfl
      · obtain ⟨c, _⟩ := hcut
        exact ⟨rfl, rfl, (by intro t v h; cases h), c.blk, c.inj, c.own, c.xlt, c.old, c.hos, c.htape, c.hout, c.hsize, c.lent⟩
    cases e with
    | ret => obtain ⟨qs, k, h1, h2, h3, h4, h5, h6⟩ := hQ; exact fin qs k h1 h2 h3 h4 h5 h6
    | normal => obtain ⟨qs, k, h1, h2, h3, h4, h5, h6⟩ := hQ; exact fin qs k h1 h2 h3 h4 h5 h6
    | _ => exact hQ.elim
end Go.Proofs.YtjjdabihnmilgaaGreat.A
namespace Go.Proofs.YtjjdabihnmilgaaGreat.A
open Go.RowKit
set_option linter.unusedVariables false
set_option linter.unusedSimpArgs false
theorem rowsIn_wide {n : Nat} {P : Program} {row : String} {args : Array Value} {w : World} {R : Value → World → Prop} (h : Rows P row args w R) : RowsIn Fence.wide n P row args w R :=
  fun c cs _ => let ⟨v, w', r, s⟩ := h c cs; ⟨v, w', r, stepsIn_wide.2 s⟩
def isDefer (o : Oper) : Bool := match o.op with | .defer _ => true | _ => false
theorem isDefer_no {o : Oper} (h : isDefer o = false) : ∀ c, o.op ≠ .defer c := by
  intro c hc
  unfold isDefer at h
  rw [hc] at h
  cases h
/-- The fence of a round, or of a frame of its own. -/
def fro (r : Option Nat) : Fence := { Fence.wide with round := r }
def clr (a : Act) : Act := { a with defers := [] }
def Qm (ds : List Deferred) (Q : Exit → Act → World → Prop) : Exit → Act → World → Prop := fun e a w => a.defers = ds ∧ Q e (clr a) w
theorem put_defers (a : Act) (dst : Option Nat) (v : Value) : (a.put dst v).defers = a.defers := by cases dst <;> rfl
theorem put_clr (a : Act) (dst : Option Nat) (v : Value) : clr (a.put dst v) = (clr a).put dst v := by cases dst <;> rfl
variable {P : Program}
theorem wpList_nodefer {ops : Array Oper} {Q : Exit → Act → World → Prop} (hQ : ∀ e a w, Q e a w → a.defers = []) (hL : ¬ LetsOut Q) : ∀ (rest : List Oper) (a : Act) (w : World), wpList P ops Q rest a w → a.defers = [] := by
  intro rest
  induction rest with
  | nil => exact fun a w h => hQ _ _ _ h
  | cons o rest ih =>
    intro a w h
    unfold wpList at h
    split at h
    · rcases h with h | h
      · unfold Oper.wp at h
        generalize (execOp a.eval o).run P w = r at h
        unfold Oper.upon at h
        split at h
        · have := ih _ _ h; rwa [put_defers] at this
        · have := ih _ _ h; rwa [put_defers] at this
        · have := ih _ _ h; rw [put_defers] at this; cases this
        · obtain ⟨e, w', fr, hr, _⟩ := h []
          cases e with
          | returned v => have := ih _ _ hr; rwa [put_defers] at this
          | panicked c => exact hQ _ _ _ hr
          | outgrown => exact absurd hr hL
        · obtain ⟨v, w', hr, _⟩ := h default []
          have := ih _ _ hr; rwa [put_defers] at this
        · exact hQ _ _ _ h
        · exact h.elim
      · exact absurd h.2 hL
    · have := ih _ _ h; rwa [put_defers] at this
theorem wpListIn_of {ops : Array Oper} {Q : Exit → Act → World → Prop} (hQ : ∀ e a w, Q e a w → a.defers = []) (hL : ¬ LetsOut Q) (r : Option Nat) (n : Nat) : ∀ (rest : List Oper), rest.all (fun o => !isDefer o) = true → ∀ (a : Act) (w : World), wpList P ops Q rest (clr a) w → wpListIn (fro r) n P ops (Qm a.defers Q) rest a w := by
  intro rest
  induction rest with
  | nil => exact fun _ a w h => ⟨rfl, h⟩
  | cons o rest ih =>
    intro hd a w h
    simp only [List.all_cons, Bool.and_eq_true, Bool.not_eq_true'] at hd
    have ih := ih hd.2
    unfold wpList at h
    unfold wpListIn
    split at h
    · rename_i hw
      have hw : Region.wanted o (yielded ops a.tmps) = true := hw
      rw [if_pos hw]
      rcases h with h | h
      · refine ⟨fun _ _ => trivial, ?_⟩
        rw [Oper.semAt_eq _ _ _ (isDefer_no hd.1)]
        unfold Oper.wp at h
        change Oper.upon P o (clr a) _ _ ((execOp a.eval o).run P w) at h
        generalize (execOp a.eval o).run P w = res at h ⊢
        unfold Oper.upon at h
        split at h
        · have := ih (a.put o.dst _) _ (by rw [put_clr]; exact h)
          rw [put_defers] at this
          exact this
        · have := ih (a.put o.dst _) _ (by rw [put_clr]; exact h)
          rw [put_defers] at this
          exact this
        · have := wpList_nodefer hQ hL _ _ _ h
          rw [put_defers] at this
          cases this
        · refine ⟨fun h => by simp [fro, Fence.wide] at h, ?_⟩
          have hc := (callsIn_wide (n := n - 1)).2 h
          have hc : CallsIn (fro r) (n - 1) P _ _ _ _ := hc
          refine hc.mono ?_
          intro e w' hr
          cases e with
          | returned v =>
            have := ih (a.put o.dst v) _ (by rw [put_clr]; exact hr)
            rw [put_defers] at this
            exact this
          | panicked c => exact ⟨rfl, hr⟩
          | outgrown => exact absurd hr hL
        · refine ⟨fun h => by simp [fro, Fence.wide] at h, ?_⟩
          have hc := rowsIn_wide (n := n - 1) h
          have hc : RowsIn (fro r) (n - 1) P _ _ _ _ := hc
          refine hc.mono ?_
          intro v w' hr
          have := ih (a.put o.dst v) _ (by rw [put_clr]; exact hr)
          rw [put_defers] at this
          exact this
        · exact ⟨rfl, h⟩
        · exact h.elim
      · exact absurd h.2 hL
    · rename_i hw
      have hw : ¬ Region.wanted o (yielded ops a.tmps) = true := hw
      rw [if_neg hw]
      refine ⟨fun _ _ => trivial, ?_⟩
      have := ih (a.put o.dst undef) _ (by rw [put_clr]; exact h)
      rw [put_defers] at this
      exact this
end Go.Proofs.YtjjdabihnmilgaaGreat.A
namespace Go.Proofs.YtjjdabihnmilgaaGreat.A
open Go.RowKit
set_option linter.unusedVariables false
set_option linter.unusedSimpArgs false
def marks (Ds : List Nat) : List Deferred := Ds.map fun D => { target := .collected D, args := #[] }
structure MkOK (C : Cx) (W : World) (Ds : List Nat) : Prop where
  nodup : Ds.Nodup
  mem : ∀ D ∈ Ds, C.w0.heap.size ≤ D ∧ W.heap[D]? = some (.deferred (some []))
def CM (C : Cx) (Q : Exit → St → Prop) : Exit → Act → World → Prop := fun e a W => ∃ s γ κ Ds, Conc C s γ κ (clr a) W ∧ a.defers = marks Ds ∧ MkOK C W Ds ∧ Q e s
def AWM (r : Option Nat) (C : Cx) (c : Code) (Q : Exit → St → Prop) (s : St) : Prop :=
  ∀ n γ κ a W Ds, Conc C s γ κ (clr a) W → a.defers = marks Ds → MkOK C W Ds → c.wpIn (fro r) n C.P (CM C Q) a W
/-- The same call, told from here on. -/
def Cx.at (C : Cx) (W : World) (may : Nat → Prop) : Cx := { C with w0 := W, may := may }
def ownOf (s : St) (γ : Nat → Option Nat) (g : Nat) : Prop := ∃ i, i < s.hp.length ∧ γ i = some g
section
variable {C : Cx} {s : St} {γ : Nat → Option Nat} {κ : Nat → Nat} {a : Act} {W : World}
theorem Conc.rebase (hC : Conc C s γ κ a W) : Conc (C.at W (ownOf s γ)) s γ κ a W where
  size := hC.size
  defers := hC.defers
  env := hC.env
  blk := hC.blk
  inj := hC.inj
  own := fun id g hi hg => ⟨(hC.own id g hi hg).1, .inr ⟨id, hi, hg⟩⟩
  xlt := fun b hb => Nat.lt_of_lt_of_le (hC.xlt b hb) hC.hsize
  old := fun _ _ _ => rfl
  hos := rfl
  htape := rfl
  hout := rfl
  hsize := Nat.le_refl _
  lent := hC.lent
theorem Conc.unbase (hC : Conc C s γ κ a W) {s' : St} {γ' : Nat → Option Nat} {κ' : Nat → Nat} {a' : Act} {W' : World} (h : Conc (C.at W (ownOf s γ)) s' γ' κ' a' W') : Conc C s' γ' κ' a' W' where
  size := h.size
  defers := h.defers
  env := h.env
  blk := h.blk
  inj := h.inj
  own := fun id g hi hg => ⟨(h.own id g hi hg).1, by
    rcases (h.own id g hi hg).2 with h1 | ⟨i, h1, h2⟩
    · exact .inl (Nat.le_trans hC.hsize h1)
    · exact (hC.own i g h1 h2).2⟩
  xlt := hC.xlt
  old := fun b hb hm => by
    refine (h.old b (Nat.lt_of_lt_of_le hb hC.hsize) ?_).trans (hC.old b hb hm)
    rintro ⟨i, h1, h2⟩
    rcases (hC.own i b h1 h2).2 with h3 | h3
    · exact absurd hb (by omega)
    · exact hm h3
  hos := h.hos.trans hC.hos
  htape := h.htape.trans hC.htape
  hout := h.hout.trans hC.hout
  hsize := Nat.le_trans hC.hsize h.hsize
  lent := h.lent
theorem Conc.ownCells (hC : Conc C s γ κ a W) {g : Nat} (h : ownOf s γ g) : ∃ o, W.heap[g]? = some o ∧ o.isCells = true := by
  obtain ⟨i, h1, h2⟩ := h
  have := (hC.blk i s.hp[i] (List.getElem?_eq_getElem h1)).mem
  rcases this with ⟨h3, _⟩ | ⟨g', ys, sp, h3, h4, _⟩
  · have h3 : γ i = none := h3
    rw [h2] at h3; cases h3
  · have h3 : γ i = some g' := h3
    rw [h2] at h3; cases h3
    exact ⟨_, h4, rfl⟩
theorem Conc.keptOther (hC : Conc C s γ κ a W) {s' : St} {γ' : Nat → Option Nat} {κ' : Nat → Nat} {a' : Act} {W' : World} (h : Conc (C.at W (ownOf s γ)) s' γ' κ' a' W') {k : Nat} {o : Obj} (hk : W.heap[k]? = some o) (ho : o.isCells = false) : W'.heap[k]? = some o := by
  refine (h.old k (Array.getElem?_eq_some_iff.1 hk).1 ?_).trans hk
  intro hm
  obtain ⟨o', h1, h2⟩ := hC.ownCells hm
  rw [hk] at h1
  cases h1
  rw [ho] at h2
  cases h2
theorem MkOK.step {Ds : List Nat} (hm : MkOK C W Ds) (hC : Conc C s γ κ a W) {s' : St} {γ' : Nat → Option Nat} {κ' : Nat → Nat} {a' : Act} {W' : World} (h : Conc (C.at W (ownOf s γ)) s' γ' κ' a' W') : MkOK C W' Ds :=
  ⟨hm.nodup, fun D hD => ⟨(hm.mem D hD).1, hC.keptOther h (hm.mem D hD).2 rfl⟩⟩
end
section
variable {r : Option Nat} {C : Cx} {Q : Exit → St → Prop} {s : St}
theorem AWM.region {id : Nat} {l : List Oper} (hd : l.all (fun o => !isDefer o) = true) (hQ : ∀ s, Q .outgrown s → False) (h : ∀ w0 may, AL (C.at w0 may) l Q l s) : AWM r C (.region id l.toArray false) Q s := by
  intro n γ κ a W Ds hC ha hm
  have h1 := h W (ownOf s γ) γ κ (clr a) W hC.rebase
  have h2 := wpListIn_of (P := C.P) (ops := l.toArray) (Q := CQ (C.at W (ownOf s γ)) Q) (fun e a w ⟨s', γ', κ', h, _⟩ => h.defers) (fun ⟨a, w, s', γ', κ', _, h⟩ => hQ _ h) r n l hd a W h1
  refine wpIn_mono (wpIn_region_list (by simpa using h2)) ?_
  rintro e a' W' ⟨h3, s', γ', κ', h4, h5⟩
  exact ⟨s', γ', κ', Ds, hC.unbase h4, h3.trans ha, hm.step hC h4, h5⟩
theorem AWM.mono {c : Code} {Q' : Exit → St → Prop} (h : AWM r C c Q s) (hq : ∀ e s, Q e s → Q' e s) : AWM r C c Q' s :=
  fun n γ κ a W Ds hC ha hm => wpIn_mono (h n γ κ a W Ds hC ha hm) fun e a W ⟨s, γ, κ, Ds, h1, h2, h3, h4⟩ => ⟨s, γ, κ, Ds, h1, h2, h3, hq _ _ h4⟩
theorem AWM.seq {x y : Code} (h : AWM r C x (Then (AWM r C y Q) Q) s) : AWM r C (.seq x y) Q s := by
  intro n γ κ a W Ds hC ha hm
  refine wpIn_seq (wpIn_mono (h n γ κ a W Ds hC ha hm) fun e a W ⟨s, γ, κ, Ds, h1, h2, h3, h4⟩ => ?_)
  cases e with
  | normal => exact h4 n γ κ a W Ds h1 h2 h3
  | _ => exact ⟨s, γ, κ, Ds, h1, h2, h3, h4⟩
theorem AWM.skip (h : Q .normal s) : AWM r C .skip Q s := fun n γ κ a W Ds hC ha hm => wpIn_skip ⟨s, γ, κ, Ds, hC, ha, hm, h⟩
theorem AWM.exit {id : Nat} (h : Q (.exit id) s) : AWM r C (.exit id) Q s := fun n γ κ a W Ds hC ha hm => wpIn_exit ⟨s, γ, κ, Ds, hC, ha, hm, h⟩
theorem AWM.ret (h : Q .ret s) : AWM r C .ret Q s := fun n γ κ a W Ds hC ha hm => wpIn_ret ⟨s, γ, κ, Ds, hC, ha, hm, h⟩
theorem AWM.block {id : Nat} {c : Code} (h : AWM r C c (InB id Q) s) : AWM r C (.block id c) Q s := by
  intro n γ κ a W Ds hC ha hm
  refine wpIn_block (wpIn_mono (h n γ κ a W Ds hC ha hm) fun e a W ⟨s, γ, κ, Ds, h1, h2, h3, h4⟩ => ?_)
  cases e with
  | exit i =>
    simp only [Exit.inBlock]
    simp only [InB] at h4
    split
    · rename_i e; rw [if_pos e] at h4; exact ⟨s, γ, κ, Ds, h1, h2, h3, h4⟩
    · rename_i e; rw [if_neg e] at h4; exact ⟨s, γ, κ, Ds, h1, h2, h3, h4⟩
  | _ => exact ⟨s, γ, κ, Ds, h1, h2, h3, h4⟩
theorem Conc.evM {γ : Nat → Option Nat} {κ : Nat → Nat} {a : Act} {W : World} (hC : Conc C s γ κ (clr a) W) {x : Operand} {v : AV} (h : s.ev x = some v) : RepA (s.mm C γ κ W) v (a.eval x) := hC.ev h
theorem AWM.cond {c : Operand} {x y : Code} {b : Bool} (hc : s.ev c = some (.imm (.bool b))) (h1 : b = true → AWM r C x Q s) (h2 : b = false → AWM r C y Q s) : AWM r C (.cond c x y) Q s := by
  intro n γ κ a W Ds hC ha hm
  have h := hC.evM hc
  cases h with
  | imm v x h =>
    have := h.bool_inv
    exact wpIn_cond_split (t := b) this (fun e => h1 e n γ κ a W Ds hC ha hm) (fun e => h2 e n γ κ a W Ds hC ha hm)
theorem AWM.condT {c : Operand} {x y : Code} (hc : s.ev c = some (.imm (.bool true))) (h1 : AWM r C x Q s) : AWM r C (.cond c x y) Q s := AWM.cond hc (fun _ => h1) (fun h => by cases h)
theorem AWM.condF {c : Operand} {x y : Code} (hc : s.ev c = some (.imm (.bool false))) (h1 : AWM r C y Q s) : AWM r C (.cond c x y) Q s := AWM.cond hc (fun h => by cases h) (fun _ => h1)
theorem AWM.weak {c : Code} {s1 : St} (hle : Le C s s1) (h : AWM r C c Q s1) : AWM r C c Q s :=
  fun n γ κ a W Ds hC ha hm => let ⟨γ', κ', h'⟩ := hle γ κ (clr a) W hC; h n γ' κ' a W Ds h' ha hm
end
end Go.Proofs.YtjjdabihnmilgaaGreat.A
