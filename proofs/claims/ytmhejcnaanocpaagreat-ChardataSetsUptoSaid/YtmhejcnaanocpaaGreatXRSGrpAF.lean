/- The abstract walk, part Q: single operations in a region that draws its order. -/
import Derived.Test.YtmhejcnaanocpaaGreatXRSGrpAE
namespace Go.Proofs.YtmhejcnaanocpaaGreat.A
open Go.RowKit
set_option linter.unusedVariables false
set_option linter.unusedSimpArgs false
def refs : AV → List Nat
  | .ptr id _ _ _ => [id]
  | .os id _ => [id]
  | .sub id _ _ _ => [id]
  | _ => []
def tmpsOf : List Operand → List Nat
  | [] => []
  | .tmp t :: r => t :: tmpsOf r
  | _ :: r => tmpsOf r
def refsOf (s : St) : List Operand → List Nat
  | [] => []
  | x :: r => (match s.ev x with
    | some v => refs v ++ refsOf s r
    | none => refsOf s r)
def gds (l : List Oper) (o : Oper) : List Nat :=
  match o.guard with
  | some (j, _) => (match dstOf l j with
    | some d => [d]
    | none => [])
  | none => []
def mkFx (l : List Oper) (s : St) (o : Oper) (d : Dl) (xb : List Nat) : Fx := ⟨o.dst, d, tmpsOf o.op.operands.toList ++ gds l o, refsOf s o.op.operands.toList ++ xb⟩
theorem qd7 {t : Nat} : ∀ {xs : List Operand}, Operand.tmp t ∈ xs → t ∈ tmpsOf xs
  | [], h => by cases h
  | x :: r, h => by
    rcases List.mem_cons.1 h with e | e
    · subst e; simp [tmpsOf]
    · have := qd7 e
      cases x <;> simp [tmpsOf, this]
theorem qd8 {s : St} {x : Operand} {v : AV} (hv : s.ev x = some v) {p : Nat} (hp : p ∈ refs v) : ∀ {xs : List Operand}, x ∈ xs → p ∈ refsOf s xs
  | [], h => by cases h
  | y :: r, h => by
    simp only [refsOf]
    rcases List.mem_cons.1 h with e | e
    · subst e; rw [hv]; simp [hp]
    · have := qd8 hv hp e
      split
      · simp [this]
      · exact this
structure Loc (l : List Oper) (s s' : St) (o : Oper) (xb : List Nat) : Prop where
  ev : ∀ x ∈ o.op.operands.toList, s'.ev x = s.ev x
  want : awant l s' o = awant l s o
  hp : ∀ x ∈ o.op.operands.toList, ∀ v, s.ev x = some v → ∀ p ∈ refs v, nth s'.hp p = nth s.hp p
  xb : ∀ p ∈ xb, nth s'.hp p = nth s.hp p
  len : s'.hp.length = s.hp.length
theorem Loc.of {l : List Oper} {s s' : St} {o : Oper} {d : Dl} {xb : List Nat} (h1 : ∀ t ∈ (mkFx l s o d xb).rs, get s'.env t = get s.env t) (h2 : ∀ p ∈ (mkFx l s o d xb).rb, s'.hp[p]? = s.hp[p]?) (h3 : s'.hp.length = s.hp.length) : Loc l s s' o xb := by
  refine ⟨fun x hx => ?_, ?_, fun x hx v hv p hp => ?_, fun p hp => ?_, h3⟩
  · cases x with
    | tmp t => exact h1 t (List.mem_append.2 (.inl (qd7 hx)))
    | const v => cases v with
      | pointer a => cases a <;> rfl
      | slice a n c => cases a <;> cases n <;> cases c <;> rfl
      | _ => rfl
    | global g => rfl
    | func f => rfl
  · unfold awant
    cases hg : o.guard with
    | none => rfl
    | some z =>
      obtain ⟨j, want⟩ := z
      simp only
      cases hd : dstOf l j with
      | none => rfl
      | some d =>
        simp only
        rw [h1 d (List.mem_append.2 (.inr (by simp [gds, hg, hd])))]
  · rw [qm, qm]
    exact h2 p (List.mem_append.2 (.inl (qd8 hv hp hx)))
  · rw [qm, qm]
    exact h2 p (List.mem_append.2 (.inr hp))
section
variable {C : Cx} {s : St} {o : Oper} {T : List (Nat × TI)} {l : List Oper}
theorem yav {v : AV} (xb : List Nat) (hw : awant l s o = some true) (h : ∀ s', Loc l s s' o xb → OpOK C s' o (s'.put o.dst v)) : LS C l s o (mkFx l s o (.val v) xb) :=
  ⟨rfl, fun s' h1 h2 h3 => by
    have hl := Loc.of h1 h2 h3
    exact .inl ⟨hl.want.trans hw, h s' hl⟩⟩
theorem LS.blk {p : Nat} {b : Blk} {v : AV} (xb : List Nat) (hw : awant l s o = some true) (h : ∀ s', Loc l s s' o xb → OpOK C s' o (St.put ⟨s'.env, s'.hp.set p b⟩ o.dst v)) : LS C l s o (mkFx l s o (.blk p b v) xb) :=
  ⟨rfl, fun s' h1 h2 h3 => by
    have hl := Loc.of h1 h2 h3
    refine .inl ⟨hl.want.trans hw, ?_⟩
    have := h s' hl
    obtain ⟨e, hh⟩ := s'
    exact this⟩
theorem yu (hw : awant l s o = some false) (hd : dok C.nt o.dst = true) : LS C l s o (mkFx l s o (.val .undef) []) :=
  ⟨rfl, fun s' h1 h2 h3 => by
    have hl := Loc.of h1 h2 h3
    exact .inr ⟨hl.want.trans hw, hd, rfl⟩⟩
theorem Loc.evs {s' : St} {xb : List Nat} (h : Loc l s s' o xb) : ∀ {xs : List Operand}, (∀ x ∈ xs, x ∈ o.op.operands.toList) → evs s' xs = A.evs s xs
  | [], _ => rfl
  | x :: r, hx => by
    simp only [A.evs]
    rw [h.ev x (hx x (by simp)), h.evs fun y hy => hx y (by simp [hy])]
theorem Loc.evps {s' : St} {xb : List Nat} (h : Loc l s s' o xb) : ∀ {xs : List (Nat × Operand)}, (∀ x ∈ xs, x.2 ∈ o.op.operands.toList) → evps s' xs = A.evps s xs
  | [], _ => rfl
  | (i, x) :: r, hx => by
    simp only [A.evps]
    rw [h.ev x (hx (i, x) (by simp)), h.evps fun y hy => hx y (by simp [hy])]
noncomputable def aval (T : List (Nat × TI)) (s : St) (o : Oper) : Option AV :=
  match o.op with
  | .move x => s.ev x
  | .assign x => s.ev x
  | .pick c x y => (match s.ev c with
    | some (.imm (.bool b)) => s.ev (pk b x y)
    | _ => none)
  | .load t p => (match s.ev p with
    | some q => aLoad T s t q
    | none => none)
  | .fieldAddr t x f => (match s.ev x with
    | some q => (match curB s q with
      | true => aFieldAddr T t f q
      | false => none)
    | none => none)
  | .field t x f => (match s.ev x with
    | some q => aField T t f q
    | none => none)
  | .extract x i => (match s.ev x with
    | some q => aEx i q
    | none => none)
  | .unOp .not t x => (match s.ev x with
    | some (.imm (.bool b)) => some (.imm (.bool !b))
    | _ => none)
  | .binOp op t x y _ => (match s.ev x with
    | some q => (match s.ev y with
      | some r => (match bBin T op t q r with
        | some b => some (.imm (.bool b))
        | none => none)
      | none => none)
    | none => none)
  | .nilCheck x => (match s.ev x with
    | some q => (match isPtr s q with
      | true => some q
      | false => none)
    | none => none)
  | .build t ps => (match look T t with
    | some i => (match i.flds with
      | [] => none
      | _ :: _ => (match evps s ps.toList with
        | some vs => (match aFill (fplace i) i.zero vs with
          | some l => some (.agg l)
          | none => none)
        | none => none))
    | none => none)
  | .call ⟨.builtin .len, args, ats⟩ => (match args.toList with
    | [x] => (match ats.toList with
      | [t] => (match look T t with
        | some i => (match s.ev x with
          | some q => (match aLen s i q with
            | some n => some (.imm (.int .i64 n))
            | none => none)
          | none => none)
        | none => none)
      | _ => none)
    | _ => none)
  | _ => none
theorem qki {v : AV} (h : aval T s o = some v) : aop T s o = some (s.put o.dst v) := by
  unfold aval at h
  unfold aop
  split at h
  · rename_i ho; rw [ho]; simp only; rw [h]; rfl
  · rename_i ho; rw [ho]; simp only; rw [h]; rfl
  · rename_i ho; rw [ho]; simp only
    split at h
    · rename_i b hb; rw [hb]; simp only; rw [h]; rfl
    · cases h
  · rename_i ho; rw [ho]; simp only
    split at h
    · rename_i q hq; rw [hq]; simp only; rw [h]; rfl
    · cases h
  · rename_i ho; rw [ho]; simp only
    split at h
    · rename_i q hq; rw [hq]; simp only
      split at h
      · rename_i hc; rw [hc]; simp only; rw [h]; rfl
      · cases h
    · cases h
  · rename_i ho; rw [ho]; simp only
    split at h
    · rename_i q hq; rw [hq]; simp only; rw [h]; rfl
    · cases h
  · rename_i ho; rw [ho]; simp only
    split at h
    · rename_i q hq; rw [hq]; simp only; rw [h]; rfl
    · cases h
  · rename_i ho; rw [ho]; simp only
    split at h
    · rename_i b hb; rw [hb]; obtain rfl := Option.some.inj h; rfl
    · cases h
  · rename_i ho; rw [ho]; simp only
    split at h
    · rename_i q hq; rw [hq]; simp only
      split at h
      · rename_i r hr; rw [hr]; simp only
        split at h
        · rename_i b hb; rw [hb]; obtain rfl := Option.some.inj h; rfl
        · cases h
      · cases h
    · cases h
  · rename_i ho; rw [ho]; simp only
    split at h
    · rename_i q hq; rw [hq]; simp only
      split at h
      · rename_i hc; rw [hc]; obtain rfl := Option.some.inj h; rfl
      · cases h
    · cases h
  · rename_i ho; rw [ho]; simp only
    split at h
    · rename_i i hi; rw [hi]; simp only
      split at h
      · cases h
      · rename_i f fs hf; rw [hf]; simp only
        split at h
        · rename_i vs hvs; rw [hvs]; simp only
          split at h
          · rename_i q hq; rw [hq]; obtain rfl := Option.some.inj h; rfl
          · cases h
        · cases h
    · cases h
  · rename_i ho; rw [ho]; simp only
    split at h
    · rename_i x hx; rw [hx]; simp only
      split at h
      · rename_i t ht; rw [ht]; simp only
        split at h
        · rename_i i hi; rw [hi]; simp only
          split at h
          · rename_i q hq; rw [hq]; simp only
            split at h
            · rename_i n hn; rw [hn]; obtain rfl := Option.some.inj h; rfl
            · cases h
          · cases h
        · cases h
      · cases h
    · cases h
  · cases h
theorem qkj {s' : St} {xb : List Nat} (hl : Loc l s s' o xb) {v : AV} (h : aval T s o = some v) : aval T s' o = some v := by
  have hev := hl.ev
  have hhp := hl.hp
  unfold aval at h ⊢
  split at h
  · rename_i x ho; rw [ho] at hev; rw [hev x (by simp [Op.operands])]; exact h
  · rename_i x ho; rw [ho] at hev; rw [hev x (by simp [Op.operands])]; exact h
  · rename_i c x y ho; rw [ho] at hev; rw [hev c (by simp [Op.operands])]
    split at h
    · rename_i b hb
      rw [hev (pk b x y) (by cases b <;> simp [Op.operands, pk])]; exact h
    · cases h
  · rename_i t p ho
    rw [ho] at hev hhp; rw [hev p (by simp [Op.operands])]
    split at h
    · rename_i q hq
      have hr := hhp p (by simp [Op.operands]) q hq
      unfold aLoad at h ⊢
      split at h
      · cases h
      · rename_i i hi
        split at h
        · rename_i id ver row off
          rw [hr id (by simp [refs])]; exact h
        · exact h
        · cases h
    · cases h
  · rename_i t x f ho
    rw [ho] at hev hhp; rw [hev x (by simp [Op.operands])]
    split at h
    · rename_i q hq
      have hr := hhp x (by simp [Op.operands]) q hq
      have : curB s' q = curB s q := by
        unfold curB
        split
        · rw [hr _ (by simp [refs])]
        · rfl
      rw [this]; exact h
    · cases h
  · rename_i t x f ho
    rw [ho] at hev; rw [hev x (by simp [Op.operands])]; exact h
  · rename_i x i ho
    rw [ho] at hev; rw [hev x (by simp [Op.operands])]; exact h
  · rename_i t x ho
    rw [ho] at hev; rw [hev x (by simp [Op.operands])]; exact h
  · rename_i op t x y t2 ho
    rw [ho] at hev; rw [hev x (by simp [Op.operands]), hev y (by simp [Op.operands])]; exact h
  · rename_i x ho
    rw [ho] at hev hhp; rw [hev x (by simp [Op.operands])]
    split at h
    · rename_i q hq
      have hr := hhp x (by simp [Op.operands]) q hq
      have : isPtr s' q = isPtr s q := by
        unfold isPtr
        split
        · rw [hr _ (by simp [refs])]
        all_goals rfl
      rw [this]; exact h
    · cases h
  · rename_i t ps ho
    have := hl.evps (xs := ps.toList) (fun x hx => by
      rw [ho]
      simp only [Op.operands]
      exact List.mem_map.2 ⟨x, hx, rfl⟩)
    rw [this]; exact h
  · rename_i args ats ho
    rw [ho] at hev hhp
    split at h
    · rename_i x hx
      have hxm : x ∈ (Op.call ⟨.builtin .len, args, ats⟩).operands.toList := by simp [Op.operands, Call.operands, hx]
      split at h
      · rename_i t ht
        split at h
        · rename_i i hi
          rw [hev x hxm]
          split at h
          · rename_i q hq
            have hr := hhp x hxm q hq
            have : aLen s' i q = aLen s i q := by
              unfold aLen
              split
              · split
                · rfl
                · rfl
                · rw [hr _ (by simp [refs])]
                · rfl
              · rfl
              · rfl
            rw [this]; exact h
          · cases h
        · cases h
      · cases h
    · cases h
  · cases h
theorem LS.val (hT : TsOK C.P T) (hw : awant l s o = some true) (hd : dok C.nt o.dst = true) {v : AV} (h : aval T s o = some v) : LS C l s o (mkFx l s o (.val v) []) :=
  yav [] hw fun s' hl => qid hT hd (qki (qkj hl h))
theorem qar {fo : Operand} {args : Array Operand} {ats : Array TypeId} (ho : o.op = .call ⟨.value fo, args, ats⟩) : fo ∈ o.op.operands.toList ∧ ∀ x ∈ args.toList, x ∈ o.op.operands.toList := by
  rw [ho]
  constructor
  · simp [Op.operands, Call.operands]
  · intro x hx
    simp [Op.operands, Call.operands]
    exact .inr (by simpa using hx)
theorem yai (hw : awant l s o = some true) {fo : Operand} {args : Array Operand} {ats : Array TypeId} (ho : o.op = .call ⟨.value fo, args, ats⟩) (hd : dok C.nt o.dst = true) {f : Nat} (hfo : s.ev fo = some (.imm (.fn f))) {vs : List AV} (hx : evs s args.toList = some vs) {r : AV} (hc : PureC C.P f vs r) (him : vs.all AV.im = true) : LS C l s o (mkFx l s o (.val r) []) :=
  yav [] hw fun s' hl => by
    obtain ⟨m1, m2⟩ := qar ho
    exact yd ho hd ((hl.ev fo m1).trans hfo) ((hl.evs m2).trans hx) hc him
theorem LS.callcv (hw : awant l s o = some true) {fo : Operand} {args : Array Operand} {ats : Array TypeId} (ho : o.op = .call ⟨.value fo, args, ats⟩) (hd : dok C.nt o.dst = true) {f : Nat} (hfo : s.ev fo = some (.imm (.fn f))) {vs vs' : List AV} (hx : evs s args.toList = some vs) (hcv : vs.map cv = vs') {r : AV} (hc : PureC C.P f vs' r) (him : vs'.all AV.im = true) : LS C l s o (mkFx l s o (.val r) []) :=
  yav [] hw fun s' hl => by
    obtain ⟨m1, m2⟩ := qar ho
    exact ybu ho hd ((hl.ev fo m1).trans hfo) ((hl.evs m2).trans hx) hcv hc him
theorem qmo {s s' : St} {v : AV} (h : ∀ p ∈ refs v, nth s'.hp p = nth s.hp p) : fzv s'.hp v = fzv s.hp v := by
  unfold fzv
  split
  · rw [h _ (by simp [refs])]
  · rfl
theorem LS.callfz (hw : awant l s o = some true) {fo : Operand} {args : Array Operand} {ats : Array TypeId} (ho : o.op = .call ⟨.value fo, args, ats⟩) (hd : dok C.nt o.dst = true) {f : Nat} (hfo : s.ev fo = some (.imm (.fn f))) {vs vs' : List AV} (hx : evs s args.toList = some vs) {r : AV} (hc : PureC C.P f vs' r) (hs : r.scal = true) (hfz : fzvs s.hp vs = some vs') : LS C l s o (mkFx l s o (.val r) []) :=
  yav [] hw fun s' hl => by
    obtain ⟨m1, m2⟩ := qar ho
    refine ya7 ho hd ((hl.ev fo m1).trans hfo) ((hl.evs m2).trans hx) hc hs ?_
    have key : ∀ (xs : List Operand) (vs : List AV), (∀ x ∈ xs, x ∈ o.op.operands.toList) → evs s xs = some vs → fzvs s'.hp vs = fzvs s.hp vs := by
      intro xs
      induction xs with
      | nil => intro vs _ h; simp only [evs, Option.some.injEq] at h; subst h; rfl
      | cons x xs ih =>
        intro vs hm h
        simp only [evs] at h
        split at h
        · cases h
        · rename_i v hv
          split at h
          · cases h
          · rename_i us hus
            obtain rfl := Option.some.inj h
            simp only [fzvs]
            rw [qmo fun p hp => hl.hp x (hm x (by simp)) v hv p hp, ih us (fun y hy => hm y (by simp [hy])) hus]
    rw [key _ _ m2 hx]; exact hfz
theorem yad (hw : awant l s o = some true) (hd : dok C.nt o.dst = true) {op : BinOp} {t t2 : TypeId} {x y : Operand} (ho : o.op = .binOp op t x y t2) {m n : Int} (hx : s.ev x = some (.imm (.int .i64 m))) (hy : s.ev y = some (.imm (.int .i64 n))) {z : Int} (h : iAri op m n = some z)
    (h0 : -9223372036854775808 ≤ z) (h1 : z ≤ 9223372036854775807) : LS C l s o (mkFx l s o (.val (.imm (.int .i64 z))) []) :=
  yav [] hw fun s' hl => yj hd ho ((hl.ev x (by rw [ho]; simp [Op.operands])).trans hx) ((hl.ev y (by rw [ho]; simp [Op.operands])).trans hy) h h0 h1
theorem yw (hT : TsOK C.P T) (hw : awant l s o = some true) (hd : dok C.nt o.dst = true) {t e : TypeId} {x y : Operand} (ho : o.op = .indexAddr t x y) {i ie : TI} (hi : look T t = some i) (hk : i.kd = .sl e) (hie : look T e = some ie) {α : Type} [Inhabited α] {f : α → List IV} {xs : List α} {k : IntKind} {j : Int} (hx : s.ev x = some (.imm (.sl (xs.map f)))) (hy : s.ev y = some (.imm (.int k j)))
    (hl : ∀ q, (f q).length = ie.sz) (hpos : 0 < ie.sz) (h0 : 0 ≤ j) (h1 : j < xs.length) : LS C l s o (mkFx l s o (.val (.pin (f (atI xs j)))) []) :=
  yav [] hw fun s' hl' => ye hT hd ho hi hk hie ((hl'.ev x (by rw [ho]; simp [Op.operands])).trans hx) ((hl'.ev y (by rw [ho]; simp [Op.operands])).trans hy) hl hpos h0 h1
theorem yar (hT : TsOK C.P T) (hw : awant l s o = some true) (hd : dok C.nt o.dst = true) {t e : TypeId} {x y : Operand} (ho : o.op = .indexAddr t x y) {i ie : TI} (hi : look T t = some i) (hk : i.kd = .sl e) (hie : look T e = some ie) {id n : Nat} {k : IntKind} {j : Int} (hx : s.ev x = some (.os id n)) (hy : s.ev y = some (.imm (.int k j)))
    {b : Blk} (hb : nth s.hp id = some b) (hver : n = b.rows.length) (hsz : b.sz = ie.sz) (h0 : 0 ≤ j) (h1 : j < n) : LS C l s o (mkFx l s o (.val (.ptr id n j.toNat 0)) []) :=
  yav [] hw fun s' hl' => yan hT hd ho hi hk hie ((hl'.ev x (by rw [ho]; simp [Op.operands])).trans hx) ((hl'.ev y (by rw [ho]; simp [Op.operands])).trans hy) ((hl'.hp x (by rw [ho]; simp [Op.operands]) _ hx id (by simp [refs])).trans hb) hver hsz h0 h1
theorem DW.step {r : List Oper} {s s2 : St} {f : Fx} {fs : List Fx} (h1 : LS C l s o f) {e1 : List (Nat × AV)} {h1' : List Blk} (he : f.ap s = ⟨e1, h1'⟩) (h2 : DW C l r ⟨e1, h1'⟩ fs s2) : DW C l (o :: r) s (f :: fs) s2 := .cons h1 (by rw [he]; exact h2)
def DQ (C : Cx) (l r : List Oper) (s : St) (acc : List Fx) (Q : Exit → St → Prop) : Prop := ∃ fs s2, DW C l r s fs s2 ∧ allOK (acc ++ fs) (anc l []) 0 [] = true ∧ Q .normal s2
theorem DQ.step {r : List Oper} {s : St} {acc : List Fx} {o : Oper} {f : Fx} {Q : Exit → St → Prop} (h1 : LS C l s o f) {e1 : List (Nat × AV)} {h1' : List Blk} (he : f.ap s = ⟨e1, h1'⟩) (k : DQ C l r ⟨e1, h1'⟩ (acc ++ [f]) Q) : DQ C l (o :: r) s acc Q := by
  obtain ⟨fs, s2, k1, k2, k3⟩ := k
  exact ⟨f :: fs, s2, .step h1 he k1, by rw [List.append_assoc] at k2; exact k2, k3⟩
theorem DQ.nil {s : St} {acc : List Fx} {Q : Exit → St → Prop} (hok : allOK acc (anc l []) 0 [] = true) (hQ : Q .normal s) : DQ C l [] s acc Q := ⟨[], s, .nil s, by rw [List.append_nil]; exact hok, hQ⟩
theorem AW.drawQ (hm : C.P.follows .mixedOrders = true) {id : Nat} {s : St} {Q : Exit → St → Prop} (hback : backOK l 0 = true) (h : DQ C l l s [] Q) : AW C (.region id l.toArray true) Q s := by
  obtain ⟨fs, s2, k1, k2, k3⟩ := h
  exact AW.draw hm k1 hback k2 k3
end
def ren0 (ρ : Nat → Nat) : AV → AV
  | .ptr id v r o => .ptr (ρ id) v r o
  | .os id n => .os (ρ id) n
  | .sub id v o n => .sub (ρ id) v o n
  | v => v
def ren1 (ρ : Nat → Nat) : AV → AV
  | .fn f caps => .fn f (caps.map (ren0 ρ))
  | .agg l => .agg (l.map (ren0 ρ))
  | .tup l => .tup (l.map (ren0 ρ))
  | v => ren0 ρ v
def ren (ρ : Nat → Nat) : AV → AV
  | .fn f caps => .fn f (caps.map (ren1 ρ))
  | .agg l => .agg (l.map (ren1 ρ))
  | .tup l => .tup (l.map (ren1 ρ))
  | v => ren1 ρ v
def renB (ρ : Nat → Nat) (b : Blk) : Blk := ⟨b.ty, b.sz, b.rows.map (·.map (ren1 ρ))⟩
structure Tr (k : Nat) (ρ : Nat → Nat) (M M' : Mm) : Prop where
  W : M'.W = M.W
  N : ∀ b, M'.N b → M.N b
  hp : ∀ i b, i < k → M.hp[i]? = some b → ∃ b', M'.hp[ρ i]? = some b' ∧ b'.sz = b.sz ∧ b'.rows.length = b.rows.length
  γ : ∀ i, i < k → M'.γ (ρ i) = M.γ i
  κ : ∀ i, i < k → M'.κ (ρ i) = M.κ i
section
variable {k : Nat} {ρ : Nat → Nat} {M M' : Mm}
theorem Tr.imm (h : Tr k ρ M M') : ∀ b, ¬ M.N b → (∃ o, M.W.heap[b]? = some o) → M'.W.heap[b]? = M.W.heap[b]? ∧ ¬ M'.N b := fun b hb _ => ⟨by rw [h.W], fun hn => hb (h.N b hn)⟩
theorem qbo {R S : AV → Value → Prop} {f : AV → AV} {g : AV → Bool} (h : ∀ v x, R v x → g v = true → S (f v) x) {l : List AV} {xs : List Value} (hl : All2 R l xs) (hg : l.all g = true) : All2 S (l.map f) xs := by
  induction hl with
  | nil => exact .nil
  | cons h1 _ ih =>
    simp only [List.all_cons, Bool.and_eq_true] at hg
    exact .cons (h _ _ h1 hg.1) (ih hg.2)
theorem Tr.r0 (h : Tr k ρ M M') {v : AV} {x : Value} (hr : RepA M v x) (hs : v.sc0 k = true) : RepA M' (ren0 ρ v) x := by
  cases hr with
  | imm v x hr => exact .imm _ _ (hr.keep h.imm)
  | nils => exact .nils
  | nocap A => exact .nocap A
  | undef => exact .undef
  | mp g ks vs hl => exact .mp g ks vs (hl.keep h.imm)
  | mpi g ks vs hl => exact .mpi g ks vs (hl.keep h.imm)
  | pin l ad ys h0 hb hy hl =>
    refine .pin l ad ys h0 (fun hn => hb (h.N _ hn)) ?_ (hl.mono fun _ _ hr => hr.keep h.imm)
    rw [h.W]; exact hy
  | ptr id ver row off b q hb hv hx =>
    have hk : id < k := by simpa [AV.sc0] using hs
    obtain ⟨b', e1, e2, e3⟩ := h.hp id b hk hb
    refine .ptr _ ver row off b' q e1 (by omega) fun hver => ?_
    obtain ⟨g, h1, h2⟩ := hx (by omega)
    exact ⟨g, by rw [h.γ id hk]; exact h1, by rw [e2]; exact h2⟩
  | os id n b A c d hb hv hx =>
    have hk : id < k := by simpa [AV.sc0] using hs
    obtain ⟨b', e1, e2, e3⟩ := h.hp id b hk hb
    refine .os _ n b' A c d e1 (by omega) fun hver => ?_
    rw [h.γ id hk, h.κ id hk]
    exact hx (by omega)
  | sub id ver off n b A c hb hv hx hc =>
    have hk : id < k := by simpa [AV.sc0] using hs
    obtain ⟨b', e1, e2, e3⟩ := h.hp id b hk hb
    refine .sub _ ver off n b' A c e1 (by omega) (fun hver => ?_) hc
    obtain ⟨h1, h2⟩ := hx (by omega)
    refine ⟨h1, fun hn => ?_⟩
    obtain ⟨g, hg, hA⟩ := h2 hn
    exact ⟨g, by rw [h.γ id hk]; exact hg, by rw [e2]; exact hA⟩
  | _ => simp [AV.sc0] at hs
theorem Tr.r1 (h : Tr k ρ M M') {v : AV} {x : Value} (hr : RepA M v x) (hs : v.sc1 k = true) : RepA M' (ren1 ρ v) x := by
  have h0 : ∀ v x, RepA M v x → v.sc0 k = true → RepA M' (ren0 ρ v) x := fun v x hr hs => h.r0 hr hs
  cases hr with
  | fn f caps xs hr => exact .fn f _ xs (qbo h0 hr hs)
  | agg l xs hr => exact .agg _ xs (qbo h0 hr hs)
  | tup l xs hr => exact .tup _ xs (qbo h0 hr hs)
  | imm v x hr => exact h0 (.imm v) _ (.imm _ _ hr) hs
  | nils => exact h0 .nils _ .nils hs
  | nocap A => exact h0 .nocap _ (.nocap A) hs
  | undef => exact h0 .undef _ .undef hs
  | mp g ks vs a1 => exact h0 (.mp g ks vs) _ (.mp g ks vs a1) hs
  | mpi g ks vs a1 => exact h0 (.mpi ks vs) _ (.mpi g ks vs a1) hs
  | pin l ad ys a1 a2 a3 a4 => exact h0 (.pin l) _ (.pin l ad ys a1 a2 a3 a4) hs
  | ptr id ver row off b q a1 a2 a3 => exact h0 (.ptr id ver row off) _ (.ptr id ver row off b q a1 a2 a3) hs
  | os id n b A c d a1 a2 a3 => exact h0 (.os id n) _ (.os id n b A c d a1 a2 a3) hs
  | sub id v o n b A c a1 a2 a3 a4 => exact h0 (.sub id v o n) _ (.sub id v o n b A c a1 a2 a3 a4) hs
theorem Tr.r (h : Tr k ρ M M') {v : AV} {x : Value} (hr : RepA M v x) (hs : v.sc k = true) : RepA M' (ren ρ v) x := by
  have h0 : ∀ v x, RepA M v x → v.sc1 k = true → RepA M' (ren1 ρ v) x := fun v x hr hs => h.r1 hr hs
  cases hr with
  | fn f caps xs hr => exact .fn f _ xs (qbo h0 hr hs)
  | agg l xs hr => exact .agg _ xs (qbo h0 hr hs)
  | tup l xs hr => exact .tup _ xs (qbo h0 hr hs)
  | imm v x hr => exact h0 (.imm v) _ (.imm _ _ hr) hs
  | nils => exact h0 .nils _ .nils hs
  | nocap A => exact h0 .nocap _ (.nocap A) hs
  | undef => exact h0 .undef _ .undef hs
  | mp g ks vs a1 => exact h0 (.mp g ks vs) _ (.mp g ks vs a1) hs
  | mpi g ks vs a1 => exact h0 (.mpi ks vs) _ (.mpi g ks vs a1) hs
  | pin l ad ys a1 a2 a3 a4 => exact h0 (.pin l) _ (.pin l ad ys a1 a2 a3 a4) hs
  | ptr id ver row off b q a1 a2 a3 => exact h0 (.ptr id ver row off) _ (.ptr id ver row off b q a1 a2 a3) hs
  | os id n b A c d a1 a2 a3 => exact h0 (.os id n) _ (.os id n b A c d a1 a2 a3) hs
  | sub id v o n b A c a1 a2 a3 a4 => exact h0 (.sub id v o n) _ (.sub id v o n b A c a1 a2 a3 a4) hs
structure Ti (k : Nat) (ρ : Nat → Nat) (M M' : Mm) : Prop where
  W : M.W = M'.W
  N : ∀ b, M.N b → M'.N b
  hp : ∀ i b', i < k → M'.hp[ρ i]? = some b' → ∃ b, M.hp[i]? = some b ∧ b'.sz = b.sz ∧ b'.rows.length = b.rows.length
  γ : ∀ i, i < k → M'.γ (ρ i) = M.γ i
  κ : ∀ i, i < k → M'.κ (ρ i) = M.κ i
theorem Ti.imm (h : Ti k ρ M M') : ∀ b, ¬ M'.N b → (∃ o, M'.W.heap[b]? = some o) → M.W.heap[b]? = M'.W.heap[b]? ∧ ¬ M.N b := fun b hb _ => ⟨by rw [h.W], fun hn => hb (h.N b hn)⟩
theorem qab {R S : AV → Value → Prop} {f : AV → AV} {g : AV → Bool} (h : ∀ v x, R (f v) x → g v = true → S v x) : ∀ {l : List AV} {xs : List Value} (hl : All2 R (l.map f) xs) (hg : l.all g = true), All2 S l xs
  | [], xs, hl, hg => by cases hl; exact .nil
  | v :: l, xs, hl, hg => by
    cases hl with
    | cons h1 h2 =>
      simp only [List.all_cons, Bool.and_eq_true] at hg
      exact .cons (h _ _ h1 hg.1) (qab h h2 hg.2)
theorem Ti.r0 (h : Ti k ρ M M') {v : AV} {x : Value} (hr : RepA M' (ren0 ρ v) x) (hs : v.sc0 k = true) : RepA M v x := by
  cases v with
  | imm v => cases hr with | imm _ _ hr => exact .imm _ _ (hr.keep h.imm)
  | nils => cases hr; exact .nils
  | nocap => cases hr; exact .nocap _
  | undef => cases hr; exact .undef
  | mp g ks vs => cases hr with | mp _ _ _ hl => exact .mp g ks vs (hl.keep h.imm)
  | mpi ks vs => cases hr with | mpi _ _ _ hl => exact .mpi _ ks vs (hl.keep h.imm)
  | pin l =>
    cases hr with
    | pin _ ad ys h0 hb hy hl =>
      refine .pin l ad ys h0 (fun hn => hb (h.N _ hn)) ?_ (hl.mono fun _ _ hr => hr.keep h.imm)
      rw [h.W]; exact hy
  | ptr id ver row off =>
    have hk : id < k := by simpa [AV.sc0] using hs
    cases hr with
    | ptr _ _ _ _ b q hb hv hx =>
      obtain ⟨b', e1, e2, e3⟩ := h.hp id b hk hb
      refine .ptr _ ver row off b' q e1 (by omega) fun hver => ?_
      obtain ⟨g, h1, h2⟩ := hx (by omega)
      exact ⟨g, by rw [← h.γ id hk]; exact h1, by rw [← e2]; exact h2⟩
  | os id n =>
    have hk : id < k := by simpa [AV.sc0] using hs
    cases hr with
    | os _ _ b A c d hb hv hx =>
      obtain ⟨b', e1, e2, e3⟩ := h.hp id b hk hb
      refine .os _ n b' A c d e1 (by omega) fun hver => ?_
      rw [← h.γ id hk, ← h.κ id hk]
      exact hx (by omega)
  | sub id ver off n =>
    have hk : id < k := by simpa [AV.sc0] using hs
    cases hr with
    | sub _ _ _ _ b A c hb hv hx hc =>
      obtain ⟨b', e1, e2, e3⟩ := h.hp id b hk hb
      refine .sub _ ver off n b' A c e1 (by omega) (fun hver => ?_) hc
      obtain ⟨h1, h2⟩ := hx (by omega)
      refine ⟨h1, fun hn => ?_⟩
      obtain ⟨g, hg, hA⟩ := h2 hn
      exact ⟨g, by rw [← h.γ id hk]; exact hg, by rw [← e2]; exact hA⟩
  | _ => simp [AV.sc0] at hs
theorem Ti.r1 (h : Ti k ρ M M') {v : AV} {x : Value} (hr : RepA M' (ren1 ρ v) x) (hs : v.sc1 k = true) : RepA M v x := by
  have h0 : ∀ v x, RepA M' (ren0 ρ v) x → v.sc0 k = true → RepA M v x := fun v x hr hs => h.r0 hr hs
  cases v with
  | fn f caps => cases hr with | fn _ _ xs hr => exact .fn f _ xs (qab h0 hr hs)
  | agg l => cases hr with | agg _ xs hr => exact .agg _ xs (qab h0 hr hs)
  | tup l => cases hr with | tup _ xs hr => exact .tup _ xs (qab h0 hr hs)
  | _ => exact h0 _ _ hr hs
theorem Ti.r (h : Ti k ρ M M') {v : AV} {x : Value} (hr : RepA M' (ren ρ v) x) (hs : v.sc k = true) : RepA M v x := by
  have h0 : ∀ v x, RepA M' (ren1 ρ v) x → v.sc1 k = true → RepA M v x := fun v x hr hs => h.r1 hr hs
  cases v with
  | fn f caps => cases hr with | fn _ _ xs hr => exact .fn f _ xs (qab h0 hr hs)
  | agg l => cases hr with | agg _ xs hr => exact .agg _ xs (qab h0 hr hs)
  | tup l => cases hr with | tup _ xs hr => exact .tup _ xs (qab h0 hr hs)
  | _ => exact h0 _ _ hr hs
end
def noact : Act := ⟨#[], []⟩
def cxG (P : Program) (X : Nat → Prop) (hp0 : List Blk) (γ : Nat → Option Nat) (κ : Nat → Nat) (W : World) (nt : Nat) : Cx := ⟨P, X, hp0, γ, κ, fun g => ∃ i, i < hp0.length ∧ γ i = some g, W, nt⟩
def GenC (P : Program) (f : FuncId) (hp0 : List Blk) (args : List AV) (r : AV) (hp1 : List Blk) : Prop :=
  Callable P f ∧ ∀ (W : World) (X : Nat → Prop) (γ : Nat → Option Nat) (κ : Nat → Nat) (xs : List Value), Conc (cxG P X hp0 γ κ W 0) ⟨[], hp0⟩ γ κ noact W → All2 (RepA (St.mm ⟨[], hp0⟩ (cxG P X hp0 γ κ W 0) γ κ W)) args xs →
    Calls P f xs.toArray W fun e W' => ∃ x γ1 κ1, e = .returned x ∧ Conc (cxG P X hp0 γ κ W 0) ⟨[], hp1⟩ γ1 κ1 noact W' ∧ RepA (St.mm ⟨[], hp1⟩ (cxG P X hp0 γ κ W 0) γ1 κ1 W') r x
def RG (C : Cx) (T : List (Nat × TI)) (rs : List ResultVar) (r : AV) (hp1 : List Blk) : Exit → St → Prop
  | .ret, s => ∃ qs k, ares T s rs = some qs ∧ pack qs = r ∧ hp1 = s.hp.take k ∧ r.sc k = true ∧ hp1.all (fun b => b.rows.all fun r => r.all (AV.sc1 k)) = true ∧ C.hp0.length ≤ k
  | .normal, s => ∃ qs k, ares T s rs = some qs ∧ pack qs = r ∧ hp1 = s.hp.take k ∧ r.sc k = true ∧ hp1.all (fun b => b.rows.all fun r => r.all (AV.sc1 k)) = true ∧ C.hp0.length ≤ k
  | _, _ => False
theorem yal {C : Cx} {T : List (Nat × TI)} {rs : List ResultVar} {r : AV} {hp1 : List Blk} {s : St} {qs : List AV} (k : Nat) (h1 : ares T s rs = some qs) (h2 : pack qs = r) (h3 : hp1 = s.hp.take k) (h4 : r.sc k = true) (h5 : hp1.all (fun b => b.rows.all fun r => r.all (AV.sc1 k)) = true) (h6 : C.hp0.length ≤ k) : RG C T rs r hp1 .ret s := ⟨qs, k, h1, h2, h3, h4, h5, h6⟩
theorem RG.norm {C : Cx} {T : List (Nat × TI)} {rs : List ResultVar} {r : AV} {hp1 : List Blk} {s : St} {qs : List AV} (k : Nat) (h1 : ares T s rs = some qs) (h2 : pack qs = r) (h3 : hp1 = s.hp.take k) (h4 : r.sc k = true) (h5 : hp1.all (fun b => b.rows.all fun r => r.all (AV.sc1 k)) = true) (h6 : C.hp0.length ≤ k) : RG C T rs r hp1 .normal s := ⟨qs, k, h1, h2, h3, h4, h5, h6⟩
theorem yah {P : Program} {f : FuncId} {fn : Func} {c : Code} {hp0 : List Blk} {args : List AV} {r : AV} {hp1 : List Blk} {T : List (Nat × TI)} (hT : TsOK P T) (hf : P.funcs[f]? = some fn) (nt : Nat) (rs : List ResultVar) (hb : fn.body = some c) (hn : (fn.name == "runtime.NumGoroutine") = false) (hnt : fn.ntmps = nt) (hrs : fn.results.toList = rs) (hlen : Nat.ble (len args) nt = true)
    (h : ∀ w0 X γ κ, AW (cxG P X hp0 γ κ w0 nt) c (RG (cxG P X hp0 γ κ w0 nt) T rs r hp1) ⟨params 0 args, hp0⟩) : GenC P f hp0 args r hp1 := by
  subst hnt hrs
  have hlen := Nat.le_of_ble_eq_true hlen
  rw [qq] at hlen
  refine ⟨fun asx w => ?_, fun W X γ κ xs hC0 hargs => ?_⟩
  · unfold callFunc
    have hp : (program).run P w = .ok P w := rfl
    rw [run_bind hp, hf]
    simp only [hn, hb]
    rfl
  · refine calls_of_wp hf hb ?_
    have hl := hargs.length
    have hC : Conc (cxG P X hp0 γ κ W fn.ntmps) ⟨params 0 args, hp0⟩ γ κ { tmps := xs.toArray ++ Array.replicate (fn.ntmps - xs.toArray.size) undef, defers := [] } W := by
      refine ⟨?_, rfl, ?_, hC0.blk, hC0.inj, hC0.own, hC0.xlt, hC0.old, hC0.hos, hC0.htape, hC0.hout, hC0.hsize, hC0.lent⟩
      · simp [cxG]; omega
      · intro t v hv
        obtain ⟨_, h2⟩ := qct args 0 t v hv
        simp only [Nat.sub_zero] at h2
        obtain ⟨x, h3, h4⟩ := hargs.get h2
        refine ⟨x, ?_, h4⟩
        simp only
        rw [Array.getElem?_append_left (by simpa using (List.getElem?_eq_some_iff.1 h3).1)]
        simpa using h3
    refine wp_mono (h W X γ κ _ _ _ _ hC) ?_
    rintro e a' W' ⟨s', γ', κ', hC', hQ⟩
    have fin : ∀ qs k, ares T s' fn.results.toList = some qs → pack qs = r → hp1 = s'.hp.take k → r.sc k = true → hp1.all (fun b => b.rows.all fun r => r.all (AV.sc1 k)) = true → hp0.length ≤ k → a'.defers = [] ∧ ∃ v, (results fn a'.tmps).run P W' = .ok v W' ∧ ∃ x γ1 κ1, Ending.returned v = .returned x ∧ Conc (cxG P X hp0 γ κ W 0) ⟨[], hp1⟩ γ1 κ1 noact W' ∧ RepA (St.mm ⟨[], hp1⟩ (cxG P X hp0 γ κ W 0) γ1 κ1 W') r x := by
      intro qs k h1 h2 h3 h4 h5 h6
      obtain ⟨ys, h7, h8⟩ := qbn hT hC' h1
      have hq := qgu h8
      rw [h2] at hq
      subst h3
      have hcut : Conc (cxG P X hp0 γ κ W fn.ntmps) ⟨[], s'.hp.take k⟩ γ' κ' a' W' ∧ RepA (St.mm ⟨[], s'.hp.take k⟩ (cxG P X hp0 γ κ W fn.ntmps) γ' κ' W') r (pack' ys) := by
        have hle := yag (C := cxG P X hp0 γ κ W fn.ntmps) (s := s') k (s1 := ⟨[], s'.hp.take k⟩) rfl trivial rfl h5 h6
        refine ⟨ycb k rfl trivial rfl h5 h6 hC', ?_⟩
        refine qf1 (M := s'.mm (cxG P X hp0 γ κ W fn.ntmps) γ' κ' W') (M' := St.mm ⟨[], s'.hp.take k⟩ (cxG P X hp0 γ κ W fn.ntmps) γ' κ' W') (k := k) rfl ?_ rfl rfl (fun id hi => List.getElem?_take_of_lt hi) hq h4
        rintro b (hb | ⟨i, hi, hg⟩)
        · exact .inl hb
        · exact .inr ⟨i, by simp at hi; omega, hg⟩
      refine ⟨hC'.defers, pack' ys, ?_, _, γ', κ', rfl, ?_, hcut.2⟩
      · unfold results
        rw [Array.mapM_eq_mapM_toList]
        have h3' := run_bind (P := P) (f := fun vs : List Value => (pure vs.toArray : Sem (Array Value))) h7
        have h5 : ((List.toArray <$> fn.results.toList.mapM (m := Sem) fun | .tmp t => pure (a'.tmps.getD t undef) | .cell b t => do loadVar t (← asAddr (a'.tmps.getD b undef))) : Sem (Array Value)).run P W' = .ok ys.toArray W' := by
          rw [map_eq_pure_bind]
          exact h3'
        refine (run_bind h5).trans ?_
        rcases ys with _ | ⟨y, _ | ⟨y2, ys⟩⟩
        · rfl
        · rfl
        · rw [dif_neg (by simp)]
          rfl
      · obtain ⟨c, _⟩ := hcut
        exact ⟨rfl, rfl, (by intro t v h; cases h), c.blk, c.inj, c.own, c.xlt, c.old, c.hos, c.htape, c.hout, c.hsize, c.lent⟩
    cases e with
    | ret => obtain ⟨qs, k, h1, h2, h3, h4, h5, h6⟩ := hQ; exact fin qs k h1 h2 h3 h4 h5 h6
    | normal => obtain ⟨qs, k, h1, h2, h3, h4, h5, h6⟩ := hQ; exact fin qs k h1 h2 h3 h4 h5 h6
    | _ => exact hQ.elim
def rho (m : List Nat) (n : Nat) (i : Nat) : Nat :=
  match nth m i with
  | some j => j
  | none => n + (i - len m)
def setAll : List Blk → List Nat → List Blk → List Blk
  | h, i :: m, b :: r => setAll (h.set i b) m r
  | h, _, _ => h
def nodupB : List Nat → Bool
  | [] => true
  | x :: l => (!memB x l) && nodupB l
theorem qay : ∀ (m : List Nat) (h : List Blk) (r : List Blk), (setAll h m r).length = h.length
  | [], h, r => by simp [setAll]
  | i :: m, h, [] => by simp [setAll]
  | i :: m, h, b :: r => by simp [setAll, qay m]
theorem qbv : ∀ (m : List Nat) (h : List Blk) (r : List Blk) (j : Nat), j ∉ m → (setAll h m r)[j]? = h[j]?
  | [], h, r, j, _ => by simp [setAll]
  | i :: m, h, [], j, _ => by simp [setAll]
  | i :: m, h, b :: r, j, hj => by
    simp only [List.mem_cons, not_or] at hj
    rw [setAll, qbv m _ r j hj.2, List.getElem?_set_ne (fun e => hj.1 e.symm)]
theorem qe9 : ∀ (m : List Nat) (h : List Blk) (r : List Blk) (i j : Nat) (b : Blk), nodupB m = true → m[i]? = some j → r[i]? = some b → j < h.length → (setAll h m r)[j]? = some b
  | [], h, r, i, j, b, _, hm, _, _ => by simp at hm
  | x :: m, h, [], i, j, b, _, _, hr, _ => by simp at hr
  | x :: m, h, c :: r, i, j, b, hn, hm, hr, hj => by
    simp only [nodupB, Bool.and_eq_true, Bool.not_eq_true'] at hn
    rw [setAll]
    cases i with
    | zero =>
      simp at hm hr
      subst hm hr
      rw [qbv m _ r x (fun hx => by rw [(memB_iff x m).2 hx] at hn; cases hn.1), List.getElem?_set_self hj]
    | succ i => exact qe9 m _ r i j b hn.2 (by simpa using hm) (by simpa using hr) (by simpa using hj)
theorem qdk : ∀ {m : List Nat}, nodupB m = true → ∀ {i i' j : Nat}, m[i]? = some j → m[i']? = some j → i = i'
  | [], _, i, i', j, h, _ => by simp at h
  | x :: m, hn, i, i', j, h, h' => by
    simp only [nodupB, Bool.and_eq_true, Bool.not_eq_true'] at hn
    have hx : x ∉ m := fun hx => by rw [(memB_iff x m).2 hx] at hn; cases hn.1
    cases i with
    | zero => cases i' with
      | zero => rfl
      | succ i' => simp at h h'; subst h; exact absurd (List.mem_of_getElem? h') hx
    | succ i => cases i' with
      | zero => simp at h h'; subst h'; exact absurd (List.mem_of_getElem? h) hx
      | succ i' => simp at h h'; exact congrArg _ (qdk hn.2 h h')
section
variable {C : Cx} {s : St} {o : Oper} {T : List (Nat × TI)}
theorem ybr {fo : Operand} {args : Array Operand} {ats : Array TypeId} (ho : o.op = .call ⟨.value fo, args, ats⟩) (hd : dok C.nt o.dst = true) {f : Nat} {caps : List AV} (hfo : s.ev fo = some (aFn f caps)) {vs : List AV} (hx : evs s args.toList = some vs)
    (m : List Nat) {hp0 : List Blk} {asx : List AV} {r : AV} {hp1 : List Blk} (hc : GenC C.P f hp0 asx r hp1)
    (hargs : vs ++ caps = asx.map (ren (rho m s.hp.length))) (hhp : m.map (nth s.hp) = hp0.map (fun b => some (renB (rho m s.hp.length) b))) (hnd : nodupB m = true)
    (hs0 : asx.all (AV.sc (len m)) = true) (hs1 : hp0.all (fun b => b.rows.all fun r => r.all (AV.sc1 (len m))) = true) (hs2 : r.sc (len hp1) = true) (hs3 : hp1.all (fun b => b.rows.all fun r => r.all (AV.sc1 (len hp1))) = true) (hge : len m ≤ len hp1) :
    OpOK C s o (St.put ⟨s.env, setAll s.hp m (hp1.map (renB (rho m s.hp.length))) ++ (hp1.drop (len m)).map (renB (rho m s.hp.length))⟩ o.dst (ren (rho m s.hp.length) r)) := by
  intro γ κ a W hC K Q hK
  obtain ⟨hcl, hcall⟩ := hc
  simp only [qq] at hs0 hs1 hs2 hs3 hge
  have hml : m.length = hp0.length := by simpa using congrArg List.length hhp
  have hmi : ∀ {i : Nat} {j : Nat}, m[i]? = some j → ∃ b0, hp0[i]? = some b0 ∧ s.hp[j]? = some (renB (rho m s.hp.length) b0) ∧ j < s.hp.length := by
    intro i j hij
    have := congrArg (fun l => l[i]?) hhp
    simp only [List.getElem?_map, hij, Option.map_some] at this
    cases hb : hp0[i]? with
    | none => rw [hb] at this; cases this
    | some b0 =>
      rw [hb] at this
      have := Option.some.inj this
      rw [qm] at this
      exact ⟨b0, rfl, this, (List.getElem?_eq_some_iff.1 this).1⟩
  have rho_in : ∀ {i j : Nat}, m[i]? = some j → rho m s.hp.length i = j := by
    intro i j hij
    unfold rho
    rw [qm, hij]
  have rho_out : ∀ {i : Nat}, m.length ≤ i → rho m s.hp.length i = s.hp.length + (i - m.length) := by
    intro i hi
    unfold rho
    rw [qm, List.getElem?_eq_none hi, qq]
  have m_get : ∀ {i : Nat}, i < m.length → ∃ j, m[i]? = some j := fun hi => ⟨_, List.getElem?_eq_getElem hi⟩
  let γ' : Nat → Option Nat := fun i => γ (rho m s.hp.length i)
  let κ' : Nat → Nat := fun i => κ (rho m s.hp.length i)
  let N := nset C.X γ s.hp.length
  let X' : Nat → Prop := fun b => N b ∧ ¬ ∃ i, i < hp0.length ∧ γ' i = some b
  let C' := cxG C.P X' hp0 γ' κ' W 0
  let M := s.mm C γ κ W
  let M' : Mm := St.mm ⟨[], hp0⟩ C' γ' κ' W
  have hN' : ∀ b, M'.N b ↔ N b := by
    intro b
    constructor
    · rintro (h | ⟨i, hi, hg⟩)
      · exact h.1
      · have hi : i < hp0.length := hi
        obtain ⟨j, hj⟩ := m_get (i := i) (by omega)
        obtain ⟨b0, _, _, hjl⟩ := hmi hj
        have hg' : γ (rho m s.hp.length i) = some b := hg
        rw [rho_in hj] at hg'
        exact .inr ⟨j, hjl, hg'⟩
    · intro h
      by_cases hl : ∃ i, i < hp0.length ∧ γ' i = some b
      · obtain ⟨i, hi, hg⟩ := hl
        exact .inr ⟨i, hi, hg⟩
      · exact .inl ⟨h, hl⟩
  have hTi : Ti m.length (rho m s.hp.length) M' M := by
    refine ⟨rfl, fun b hb => (hN' b).1 hb, ?_, fun i _ => rfl, fun i _ => rfl⟩
    intro i b' hi hb'
    obtain ⟨j, hj⟩ := m_get hi
    obtain ⟨b0, h1, h2, _⟩ := hmi hj
    rw [rho_in hj] at hb'
    have hb'' : s.hp[j]? = some b' := hb'
    rw [h2] at hb''
    cases hb''
    exact ⟨b0, h1, rfl, by simp [renB]⟩
  have hblk0 : ∀ i b0, hp0[i]? = some b0 → BlkOK M' i b0 := by
    intro i b0 hb0
    have hi : i < m.length := by rw [hml]; exact (List.getElem?_eq_some_iff.1 hb0).1
    obtain ⟨j, hj⟩ := m_get hi
    obtain ⟨b1, h1, h2, hjl⟩ := hmi hj
    rw [hb0] at h1
    cases h1
    have hB := hC.blk j _ h2
    have hflat : (renB (rho m s.hp.length) b0).rows.flatten = b0.rows.flatten.map (ren1 (rho m s.hp.length)) := by
      simp [renB, List.map_flatten]
    have hsc := List.all_eq_true.1 hs1 b0 (List.mem_of_getElem? hb0)
    have hscf : b0.rows.flatten.all (AV.sc1 m.length) = true := by
      rw [List.all_eq_true] at hsc ⊢
      intro c hc
      obtain ⟨r, hr, hc⟩ := List.mem_flatten.1 hc
      exact List.all_eq_true.1 (hsc r hr) c hc
    refine ⟨hB.pos, fun r hr => ?_, fun c hc => ?_, ?_, ?_, ?_⟩
    · have := hB.rows (r.map (ren1 (rho m s.hp.length))) (List.mem_map.2 ⟨r, hr, rfl⟩)
      simpa [renB] using this
    · have := hB.cell (ren1 (rho m s.hp.length) c) (by rw [hflat]; exact List.mem_map.2 ⟨c, hc, rfl⟩)
      cases c <;> first | rfl | (simp [ren1, ren0, AV.cell] at this; done)
    · have := hB.cap
      simp only [renB, List.length_map] at this
      show _ ≤ κ (rho m s.hp.length i)
      rw [rho_in hj]; exact this
    · show κ (rho m s.hp.length i) ≤ _
      rw [rho_in hj]; exact hB.capm
    · rcases hB.mem with ⟨e1, e2, e3⟩ | ⟨g, ys, sp, e1, e2, e3, e4⟩
      · refine .inl ⟨?_, ?_, ?_⟩
        · show γ (rho m s.hp.length i) = none
          rw [rho_in hj]; exact e1
        · simpa [renB] using e2
        · show κ (rho m s.hp.length i) = 0
          rw [rho_in hj]; exact e3
      · refine .inr ⟨g, ys, sp, ?_, e2, ?_, ?_⟩
        · show γ (rho m s.hp.length i) = some g
          rw [rho_in hj]; exact e1
        · show _ = κ (rho m s.hp.length i) * _
          rw [rho_in hj]; exact e3
        · rw [hflat] at e4
          exact qab (f := ren1 (rho m s.hp.length)) (g := AV.sc1 m.length) (fun v x hr hs => hTi.r1 hr hs) e4 hscf
  have hC0 : Conc C' ⟨[], hp0⟩ γ' κ' noact W := by
    refine ⟨rfl, rfl, (by intro t v h; cases h), hblk0, ?_, ?_, ?_, fun _ _ _ => rfl, rfl, rfl, rfl, Nat.le_refl _, ?_⟩
    · intro i i' g hi hi' h1 h2
      obtain ⟨j, hj⟩ := m_get (i := i) (by have : i < hp0.length := hi; omega)
      obtain ⟨j', hj'⟩ := m_get (i := i') (by have : i' < hp0.length := hi'; omega)
      have h1' : γ (rho m s.hp.length i) = some g := h1
      have h2' : γ (rho m s.hp.length i') = some g := h2
      rw [rho_in hj] at h1'
      rw [rho_in hj'] at h2'
      obtain ⟨_, _, _, hjl⟩ := hmi hj
      obtain ⟨_, _, _, hjl'⟩ := hmi hj'
      have := hC.inj j j' g hjl hjl' h1' h2'
      subst this
      exact qdk hnd hj hj'
    · intro i g hi hg
      exact ⟨fun hX => hX.2 ⟨i, hi, hg⟩, .inr ⟨i, hi, hg⟩⟩
    · intro b hb
      exact hC.nlt b hb.1
    · intro i b0 hb0
      exact ⟨b0, hb0, rfl, Nat.le_refl _, fun _ => ⟨rfl, rfl⟩⟩
  have hevs := hC.evs hx
  have hfv := hC.ev hfo
  obtain ⟨capv, hfo', hcaps⟩ : ∃ capv : List Value, a.eval fo = .func (.func f) #[] capv.toArray ∧ All2 (RepA M) caps capv := by
    unfold aFn at hfv
    cases caps with
    | nil =>
      cases hfv with
      | imm _ _ h =>
        refine ⟨[], ?_, .nil⟩
        generalize a.eval fo = z at h
        cases h; rfl
    | cons c cs =>
      generalize a.eval fo = z at hfv
      cases hfv with
      | fn _ _ xs h => exact ⟨xs, rfl, h⟩
  have hall : All2 (RepA M) (asx.map (ren (rho m s.hp.length))) (args.toList.map a.eval ++ capv) := by
    rw [← hargs]
    exact hevs.append hcaps
  have hall' := qab (f := ren (rho m s.hp.length)) (g := AV.sc m.length) (fun v x hr hs => hTi.r hr hs) hall hs0
  have hrun := hcall W X' γ' κ' _ hC0 hall'
  unfold Oper.wp
  rw [qc3 hcl ho hfo' W]
  have e : args.map a.eval ++ capv.toArray = (args.toList.map a.eval ++ capv).toArray := by apply Array.toList_inj.1; simp
  rw [e]
  refine hrun.mono ?_
  rintro ex W' ⟨x, γ1, κ1, rfl, hC1, hr1⟩
  let n := s.hp.length
  let pos : Nat → Option Nat := fun j => if j < n then m.idxOf? j else some (m.length + (j - n))
  let γ2 : Nat → Option Nat := fun j => match pos j with
    | some i => γ1 i
    | none => γ j
  let κ2 : Nat → Nat := fun j => match pos j with
    | some i => κ1 i
    | none => κ j
  let hp2 := setAll s.hp m (hp1.map (renB (rho m n))) ++ (hp1.drop (len m)).map (renB (rho m n))
  have hl2 : hp2.length = n + (hp1.length - m.length) := by simp [hp2, qay, qq, n]
  have pos_m : ∀ {i j : Nat}, m[i]? = some j → pos j = some i := by
    intro i j hij
    obtain ⟨_, _, _, hjl⟩ := hmi hij
    have hjn : j < n := hjl
    simp only [pos]
    rw [if_pos hjn]
    cases hq : m.idxOf? j with
    | none =>
      rw [List.idxOf?_eq_none_iff] at hq
      exact absurd (List.mem_of_getElem? hij) hq
    | some i' =>
      have h' : m[i']? = some j := by
        have := List.idxOf?_eq_some_iff.1 hq
        obtain ⟨hlt, he, _⟩ := this
        rw [List.getElem?_eq_getElem hlt, ]
        simpa using he
      rw [qdk hnd hij h']
  have pos_new : ∀ {i : Nat}, m.length ≤ i → pos (n + (i - m.length)) = some i := by
    intro i hi
    simp only [pos]
    rw [if_neg (by omega)]
    congr 1; omega
  have pos_rho : ∀ i, i < hp1.length → pos (rho m n i) = some i := by
    intro i hi
    by_cases h : i < m.length
    · obtain ⟨j, hj⟩ := m_get h
      rw [show rho m n i = j from rho_in hj]; exact pos_m hj
    · rw [show rho m n i = n + (i - m.length) from rho_out (by omega)]; exact pos_new (by omega)
  have pos_none : ∀ {j : Nat}, j < n → j ∉ m → pos j = none := by
    intro j hj hm
    simp only [pos]
    rw [if_pos hj, List.idxOf?_eq_none_iff]; exact hm
  have hp2_rho : ∀ i b, hp1[i]? = some b → hp2[rho m n i]? = some (renB (rho m n) b) := by
    intro i b hb
    by_cases h : i < m.length
    · obtain ⟨j, hj⟩ := m_get h
      obtain ⟨_, _, _, hjl⟩ := hmi hj
      rw [show rho m n i = j from rho_in hj]
      simp only [hp2]
      rw [List.getElem?_append_left (by rw [qay]; exact hjl)]
      exact qe9 m _ _ i j _ hnd hj (by rw [List.getElem?_map, hb]; rfl) hjl
    · rw [show rho m n i = n + (i - m.length) from rho_out (by omega)]
      simp only [hp2]
      rw [List.getElem?_append_right (by rw [qay]; omega), qay, List.getElem?_map, List.getElem?_drop, qq]
      rw [show m.length + (n + (i - m.length) - s.hp.length) = i by omega, hb]
      rfl
  have hp2_old : ∀ j, j < n → j ∉ m → hp2[j]? = s.hp[j]? := by
    intro j hj hm
    simp only [hp2]
    rw [List.getElem?_append_left (by rw [qay]; exact hj)]
    exact qbv m _ _ j hm
  have hcase : ∀ j, j < hp2.length → (j < n ∧ j ∉ m) ∨ ∃ i, i < hp1.length ∧ j = rho m n i := by
    intro j hj
    by_cases h : j < n
    · by_cases hm : j ∈ m
      · obtain ⟨i, hi⟩ := List.mem_iff_getElem?.1 hm
        have hil := (List.getElem?_eq_some_iff.1 hi).1
        exact .inr ⟨i, by omega, (rho_in hi).symm⟩
      · exact .inl ⟨h, hm⟩
    · refine .inr ⟨m.length + (j - n), by omega, ?_⟩
      rw [show rho m n (m.length + (j - n)) = n + ((m.length + (j - n)) - m.length) from rho_out (by omega)]
      omega
  have rho_lt : ∀ i, i < hp1.length → rho m n i < hp2.length := by
    intro i hi
    obtain ⟨b, hb⟩ : ∃ b, hp1[i]? = some b := ⟨_, List.getElem?_eq_getElem hi⟩
    exact (List.getElem?_eq_some_iff.1 (hp2_rho i b hb)).1
  have rho_m : ∀ i, i < hp1.length → rho m n i < n → rho m n i ∈ m := by
    intro i hi hlt
    by_cases h : i < m.length
    · obtain ⟨j, hj⟩ := m_get h
      rw [show rho m n i = j from rho_in hj]; exact List.mem_of_getElem? hj
    · rw [show rho m n i = n + (i - m.length) from rho_out (by omega)] at hlt
      omega
  have γ2_rho : ∀ i, i < hp1.length → γ2 (rho m n i) = γ1 i := by intro i hi; simp only [γ2, pos_rho i hi]
  have κ2_rho : ∀ i, i < hp1.length → κ2 (rho m n i) = κ1 i := by intro i hi; simp only [κ2, pos_rho i hi]
  have γ2_old : ∀ j, j < n → j ∉ m → γ2 j = γ j := by intro j hj hm; simp only [γ2, pos_none hj hm]
  have κ2_old : ∀ j, j < n → j ∉ m → κ2 j = κ j := by intro j hj hm; simp only [κ2, pos_none hj hm]
  let M1' : Mm := St.mm ⟨[], hp1⟩ C' γ1 κ1 W'
  let M1 : Mm := St.mm ⟨s.env, hp2⟩ C γ2 κ2 W'
  have hown1 : ∀ i g, i < hp1.length → γ1 i = some g → ¬ X' g ∧ (W.heap.size ≤ g ∨ ∃ q, q < hp0.length ∧ γ' q = some g) := fun i g hi hg => hC1.own i g hi hg
  have lentN : ∀ q g, q < hp0.length → γ' q = some g → ∃ j, m[q]? = some j ∧ j < n ∧ γ j = some g := by
    intro q g hq hg
    obtain ⟨j, hj⟩ := m_get (i := q) (by omega)
    obtain ⟨_, _, _, hjl⟩ := hmi hj
    have hg' : γ (rho m s.hp.length q) = some g := hg
    rw [rho_in hj] at hg'
    exact ⟨j, hj, hjl, hg'⟩
  have hNsub : ∀ b, M1.N b → M1'.N b := by
    rintro b (h | ⟨j, hj, hg⟩)
    · refine .inl ⟨.inl h, ?_⟩
      rintro ⟨q, hq, hg⟩
      obtain ⟨j, _, hjl, hg⟩ := lentN q b hq hg
      exact (hC.own j b hjl hg).1 h
    · rcases hcase j hj with ⟨h1, h2⟩ | ⟨i, hi, rfl⟩
      · have hg' : γ2 j = some b := hg
        rw [γ2_old j h1 h2] at hg'
        refine .inl ⟨.inr ⟨j, h1, hg'⟩, ?_⟩
        rintro ⟨q, hq, hgq⟩
        obtain ⟨j', hj', hjl', hg''⟩ := lentN q b hq hgq
        have := hC.inj j j' b h1 hjl' hg' hg''
        subst this
        exact h2 (List.mem_of_getElem? hj')
      · have hg' : γ2 (rho m n i) = some b := hg
        rw [γ2_rho i hi] at hg'
        exact .inr ⟨i, hi, hg'⟩
  have hTr : Tr hp1.length (rho m n) M1' M1 := by
    refine ⟨rfl, hNsub, ?_, γ2_rho, κ2_rho⟩
    intro i b hi hb
    exact ⟨renB (rho m n) b, hp2_rho i b hb, rfl, by simp [renB]⟩
  have hKeep : Keep M M1 := by
    refine ⟨fun b hb hex => ?_, fun j b hjb => ?_⟩
    · obtain ⟨oo, hoo⟩ := hex
      have hbs : b < W.heap.size := qa8 (W := W) hoo
      have hnb : ¬ N b := hb
      have hmay : ¬ ∃ q, q < hp0.length ∧ γ' q = some b := by
        rintro ⟨q, hq, hg⟩
        obtain ⟨j, _, hjl, hg⟩ := lentN q b hq hg
        exact hnb (.inr ⟨j, hjl, hg⟩)
      refine ⟨hC1.old b hbs hmay, ?_⟩
      rintro (h | ⟨j, hj, hg⟩)
      · exact hnb (.inl h)
      · rcases hcase j hj with ⟨h1, h2⟩ | ⟨i, hi, rfl⟩
        · have hg' : γ2 j = some b := hg
          rw [γ2_old j h1 h2] at hg'
          exact hnb (.inr ⟨j, h1, hg'⟩)
        · have hg' : γ2 (rho m n i) = some b := hg
          rw [γ2_rho i hi] at hg'
          rcases (hown1 i b hi hg').2 with h | h
          · omega
          · exact hmay h
    · have hjb' : s.hp[j]? = some b := hjb
      have hjn : j < n := (List.getElem?_eq_some_iff.1 hjb').1
      by_cases hm : j ∈ m
      · obtain ⟨i, hi⟩ := List.mem_iff_getElem?.1 hm
        obtain ⟨b0, h1, h2, _⟩ := hmi hi
        rw [hjb'] at h2
        cases h2
        obtain ⟨b1, k1, k2, k3, k4⟩ := hC1.lent i b0 h1
        have hil : i < hp1.length := (List.getElem?_eq_some_iff.1 k1).1
        have hrj : rho m n i = j := rho_in hi
        refine ⟨renB (rho m n) b1, ?_, k2, by simpa [renB] using k3, fun e => ?_⟩
        · rw [← hrj]; exact hp2_rho i b1 k1
        · obtain ⟨e1, e2⟩ := k4 (by simpa [renB] using e)
          have e1' : γ1 i = γ (rho m s.hp.length i) := e1
          have e2' : κ1 i = κ (rho m s.hp.length i) := e2
          rw [rho_in hi] at e1' e2'
          constructor
          · show γ2 j = γ j
            rw [← hrj, γ2_rho i hil, e1', hrj]
          · show κ2 j = κ j
            rw [← hrj, κ2_rho i hil, e2', hrj]
      · exact ⟨b, (hp2_old j hjn hm).trans hjb', rfl, Nat.le_refl _, fun _ => ⟨γ2_old j hjn hm, κ2_old j hjn hm⟩⟩
  have hfin : Conc C ⟨s.env, hp2⟩ γ2 κ2 a W' := by
    refine ⟨hC.size, hC.defers, ?_, ?_, ?_, ?_, hC.xlt, ?_, hC1.hos.trans hC.hos, hC1.htape.trans hC.htape, hC1.hout.trans hC.hout, Nat.le_trans hC.hsize hC1.hsize, hC.lent.keep hKeep⟩
    · intro t v h
      obtain ⟨y, h1, h2⟩ := hC.env t v h
      exact ⟨y, h1, h2.keep hKeep⟩
    · intro j b hjb
      have hjb' : hp2[j]? = some b := hjb
      have hjl := (List.getElem?_eq_some_iff.1 hjb').1
      rcases hcase j hjl with ⟨h1, h2⟩ | ⟨i, hi, rfl⟩
      · rw [hp2_old j h1 h2] at hjb'
        have hB := hC.blk j b hjb'
        refine ⟨hB.pos, hB.rows, hB.cell, ?_, ?_, ?_⟩
        · show _ ≤ κ2 j
          rw [κ2_old j h1 h2]; exact hB.cap
        · show κ2 j ≤ _
          rw [κ2_old j h1 h2]; exact hB.capm
        · rcases hB.mem with ⟨e1, e2, e3⟩ | ⟨g, ys, sp, e1, e2, e3, e4⟩
          · exact .inl ⟨by show γ2 j = none; rw [γ2_old j h1 h2]; exact e1, e2, by show κ2 j = 0; rw [κ2_old j h1 h2]; exact e3⟩
          · refine .inr ⟨g, ys, sp, by show γ2 j = _; rw [γ2_old j h1 h2]; exact e1, ?_, by show _ = κ2 j * _; rw [κ2_old j h1 h2]; exact e3, e4.mono fun _ _ h => h.keep hKeep⟩
            have hgs : g < W.heap.size := qa8 (W := W) e2
            have hmay : ¬ ∃ q, q < hp0.length ∧ γ' q = some g := by
              rintro ⟨q, hq, hg⟩
              obtain ⟨j', hj', hjl', hg'⟩ := lentN q g hq hg
              have := hC.inj j j' g h1 hjl' e1 hg'
              subst this
              exact h2 (List.mem_of_getElem? hj')
            exact (hC1.old g hgs hmay).trans e2
      · obtain ⟨b1, hb1⟩ : ∃ b1, hp1[i]? = some b1 := ⟨_, List.getElem?_eq_getElem hi⟩
        rw [hp2_rho i b1 hb1] at hjb'
        cases hjb'
        have hB := hC1.blk i b1 hb1
        have hflat : (renB (rho m n) b1).rows.flatten = b1.rows.flatten.map (ren1 (rho m n)) := by simp [renB, List.map_flatten]
        have hsc := List.all_eq_true.1 hs3 b1 (List.mem_of_getElem? hb1)
        have hscf : b1.rows.flatten.all (AV.sc1 hp1.length) = true := by
          rw [List.all_eq_true] at hsc ⊢
          intro c hc
          obtain ⟨r, hr, hc⟩ := List.mem_flatten.1 hc
          exact List.all_eq_true.1 (hsc r hr) c hc
        refine ⟨hB.pos, fun q hq => ?_, fun c hc => ?_, ?_, ?_, ?_⟩
        · obtain ⟨q', hq', rfl⟩ := List.mem_map.1 hq
          simpa [renB] using hB.rows q' hq'
        · rw [hflat] at hc
          obtain ⟨c', hc', rfl⟩ := List.mem_map.1 hc
          have := hB.cell c' hc'
          cases c' <;> first | rfl | (simp [AV.cell] at this; done)
        · show _ ≤ κ2 _
          rw [κ2_rho i hi]
          have hcap : b1.rows.length ≤ κ1 i := hB.cap
          simpa [renB] using hcap
        · show κ2 _ ≤ _
          rw [κ2_rho i hi]; exact hB.capm
        · rcases hB.mem with ⟨e1, e2, e3⟩ | ⟨g, ys, sp, e1, e2, e3, e4⟩
          · exact .inl ⟨by show γ2 _ = none; rw [γ2_rho i hi]; exact e1, by simpa [renB] using e2, by show κ2 _ = 0; rw [κ2_rho i hi]; exact e3⟩
          · refine .inr ⟨g, ys, sp, by show γ2 _ = _; rw [γ2_rho i hi]; exact e1, e2, by show _ = κ2 _ * _; rw [κ2_rho i hi]; exact e3, ?_⟩
            rw [hflat]
            exact qbo (f := ren1 (rho m n)) (g := AV.sc1 hp1.length) (fun v x hr hs => hTr.r1 hr hs) e4 hscf
    · intro j j' g hj hj' h1 h2
      rcases hcase j hj with ⟨a1, a2⟩ | ⟨i, hi, rfl⟩ <;> rcases hcase j' hj' with ⟨b1, b2⟩ | ⟨i', hi', rfl⟩
      · rw [γ2_old j a1 a2] at h1; rw [γ2_old j' b1 b2] at h2
        exact hC.inj j j' g a1 b1 h1 h2
      · rw [γ2_old j a1 a2] at h1; rw [γ2_rho i' hi'] at h2
        exfalso
        rcases (hown1 i' g hi' h2) with ⟨hx, hw | ⟨q, hq, hg⟩⟩
        · have := hC.nlt g (.inr ⟨j, a1, h1⟩); omega
        · obtain ⟨j2, hj2, hjl2, hg2⟩ := lentN q g hq hg
          have := hC.inj j j2 g a1 hjl2 h1 hg2
          subst this
          exact a2 (List.mem_of_getElem? hj2)
      · rw [γ2_rho i hi] at h1; rw [γ2_old j' b1 b2] at h2
        exfalso
        rcases (hown1 i g hi h1) with ⟨hx, hw | ⟨q, hq, hg⟩⟩
        · have := hC.nlt g (.inr ⟨j', b1, h2⟩); omega
        · obtain ⟨j2, hj2, hjl2, hg2⟩ := lentN q g hq hg
          have := hC.inj j' j2 g b1 hjl2 h2 hg2
          subst this
          exact b2 (List.mem_of_getElem? hj2)
      · rw [γ2_rho i hi] at h1; rw [γ2_rho i' hi'] at h2
        rw [hC1.inj i i' g hi hi' h1 h2]
    · intro j g hj hg
      rcases hcase j hj with ⟨a1, a2⟩ | ⟨i, hi, rfl⟩
      · rw [γ2_old j a1 a2] at hg
        exact hC.own j g a1 hg
      · rw [γ2_rho i hi] at hg
        obtain ⟨hx, hw⟩ := hown1 i g hi hg
        rcases hw with hw | ⟨q, hq, hgq⟩
        · refine ⟨fun hX => ?_, .inl (Nat.le_trans hC.hsize hw)⟩
          have h1 := hC.xlt g hX
          have h2 := hC.hsize
          omega
        · obtain ⟨j2, hj2, hjl2, hg2⟩ := lentN q g hq hgq
          exact hC.own j2 g hjl2 hg2
    · intro b hb hmay
      have hbs : b < W.heap.size := Nat.lt_of_lt_of_le hb hC.hsize
      have hm' : ¬ ∃ q, q < hp0.length ∧ γ' q = some b := by
        rintro ⟨q, hq, hg⟩
        obtain ⟨j, _, hjl, hg⟩ := lentN q b hq hg
        rcases (hC.own j b hjl hg).2 with h | h
        · omega
        · exact hmay h
      exact (hC1.old b hbs hm').trans (hC.old b hb hmay)
  exact hK γ2 κ2 _ _ (hfin.put hd (hTr.r hr1 hs2))
end
end Go.Proofs.YtmhejcnaanocpaaGreat.A
