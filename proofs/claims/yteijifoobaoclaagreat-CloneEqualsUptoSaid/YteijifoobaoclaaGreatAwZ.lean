/- The abstract walk, part Z: more rules: ways that meet with a ghost, rows that are a list's image, an empty list that begins to grow. -/
import Derived.Test.YteijifoobaoclaaGreatAwX
import Derived.Lib.SliceRun
namespace Go.Proofs.YteijifoobaoclaaGreat.A
open Go.RowKit
set_option linter.unusedVariables false
set_option linter.unusedSimpArgs false
section
variable {C : Cx} {s : St} {γ : Nat → Option Nat} {κ : Nat → Nat} {a : Act} {W : World} {o : Oper} {T : List (Nat × TI)} {l rest : List Oper} {Q : Exit → St → Prop}
theorem Meet.of {P : Prop} {M : St} (h1 : P) (h2 : Le C s M) : Meet C P M s := ⟨h1, h2⟩
theorem Le.trans {s1 s2 : St} (h1 : Le C s s1) (h2 : Le C s1 s2) : Le C s s2 := fun γ κ a W hC =>
  let ⟨γ1, κ1, hC1⟩ := h1 γ κ a W hC
  h2 γ1 κ1 a W hC1
/-- All ways through x meet behind it, in a state of a family. -/
def MeetX (C : Cx) {β : Type} (M : β → St) (P : β → Prop) (s : St) : Prop := ∃ b, P b ∧ Le C s (M b)
theorem MeetX.of {β : Type} {M : β → St} {P : β → Prop} (b : β) (h1 : Le C s (M b)) (h2 : P b) : MeetX C M P s := ⟨b, h2, h1⟩
theorem AW.seqx {β : Type} {x y : Code} (M : β → St) (P : β → Prop) (h1 : AW C x (Then (MeetX C M P) Q) s) (h2 : ∀ b, P b → AW C y Q (M b)) : AW C (.seq x y) Q s :=
  AW.seq (h1.mono fun e s h => by
    cases e with
    | normal => obtain ⟨b, hb, hle⟩ := h; exact AW.weak hle (h2 b hb)
    | _ => exact h)
/-- As AL.op, with the state in its form. -/
theorem AL.ope {s1 : St} (hw : awant l s o = some true) (h : OpOK C s o s1) {e1 : List (Nat × AV)} {h1 : List Blk} (e : s1 = ⟨e1, h1⟩) (k : AL C l Q rest ⟨e1, h1⟩) : AL C l Q (o :: rest) s := by
  subst e
  exact AL.op hw h k
/-- A list that is nil becomes one of the call's own, without elements. -/
theorem Le.fresh (t ty sz : Nat) (hpos : Nat.blt 0 sz = true) (ht : get s.env t = some .nils) : Le C s ⟨(t, .os (len s.hp) 0) :: s.env, s.hp ++ [⟨ty, sz, []⟩]⟩ := by
  intro γ κ a W hC
  rw [Nat.blt_eq] at hpos
  obtain ⟨γ', κ', h1, h2, h3, hK⟩ := hC.reserve ty sz hpos
  refine ⟨γ', κ', h1.sub_env rfl ?_⟩
  intro u v hu
  simp only [get] at hu
  split at hu
  · rename_i e
    have e := Nat.eq_of_beq_eq_true e
    subst e
    obtain rfl := Option.some.inj hu
    obtain ⟨x, hx1, hx2⟩ := hC.env t .nils ht
    refine ⟨x, hx1, ?_⟩
    cases hx2
    rw [len_eq]
    refine .os _ _ ⟨ty, sz, []⟩ _ _ _ ?_ (Nat.zero_le _) fun _ => ⟨?_, rfl, ?_⟩
    · show (s.hp ++ [_])[s.hp.length]? = _
      simp
    · show none = (γ' s.hp.length).map _
      rw [h2]; rfl
    · show 0 = κ' s.hp.length
      rw [h3]
  · obtain ⟨x, hx1, hx2⟩ := hC.env u v hu
    exact ⟨x, hx1, hx2.keep hK⟩
theorem all_tt {α : Type} (l : List α) : (l.all fun _ => true) = true := by simp
theorem set_map {α β : Type} (g : α → β) (xs : List α) (i : Nat) (y : α) : (xs.map g).set i (g y) = (xs.set i y).map g := by rw [List.map_set]
theorem OpOK.load_m (hT : TsOK C.P T) (hd : dok C.nt o.dst = true) {t : TypeId} {p : Operand} (ho : o.op = .load t p) {i : TI} (hi : look T t = some i) {id ver off : Nat} {j : Int} (hp : s.ev p = some (.ptr id ver j.toNat off))
    {α : Type} [Inhabited α] {g : α → List AV} {xs : List α} {ty sz : Nat} (hb : nth s.hp id = some ⟨ty, sz, xs.map g⟩) (hver : ver = xs.length) (h0 : 0 ≤ j) (h1 : j < xs.length) {v : AV} (hl : ldRow i sz (g (atI xs j)) off = some v) : OpOK C s o (s.put o.dst v) :=
  OpOK.load_own hT hd ho hi hp hb (by simp [hver]) (r := g (atI xs j)) (by simp only [List.getElem?_map]; rw [atI_get h0 h1]; rfl) hl
theorem OpOK.store_m (hT : TsOK C.P T) (hd : o.dst = none) {t : TypeId} {p x : Operand} (ho : o.op = .store t p x) {i : TI} (hi : look T t = some i) {id ver off : Nat} {j : Int} (hp : s.ev p = some (.ptr id ver j.toNat off)) {v : AV} (hx : s.ev x = some v)
    {α : Type} [Inhabited α] {g : α → List AV} {xs : List α} {ty sz : Nat} (hb : nth s.hp id = some ⟨ty, sz, xs.map g⟩) (hver : ver = xs.length) (h0 : 0 ≤ j) (h1 : j < xs.length) (hlen : Nat.beq (len (avCells v)) i.sz = true) (hcell : (avCells v).all AV.cell = true) (hfit : Nat.ble (off + i.sz) sz = true)
    {y : α} (hy : putRow sz i.sz (g (atI xs j)) off (avCells v) = g y) : OpOK C s o ⟨s.env, s.hp.set id ⟨ty, sz, (xs.set j.toNat y).map g⟩⟩ := by
  have hl := Nat.eq_of_beq_eq_true hlen
  rw [len_eq] at hl
  rw [nth_eq] at hb
  have := OpOK.store_own hT hd ho hi hp hx (b := ⟨ty, sz, xs.map g⟩) hb (by simp [hver]) hl hcell (Nat.le_of_ble_eq_true hfit) (r := g (atI xs j)) (by simp only [List.getElem?_map]; rw [atI_get h0 h1]; rfl)
  rw [hy, set_map] at this
  exact this
theorem OpOK.append_m (hT : TsOK C.P T) (hd : dok C.nt o.dst = true) {x y : Operand} {t tx e : TypeId} (ho : o.op = .call ⟨.builtin .append, #[x, y], #[t, tx]⟩) {i ie : TI} (hi : look T t = some i) (hk : i.kd = .sl e) (hie : look T e = some ie) {id n : Nat} (hx : s.ev x = some (.os id n))
    {α : Type} {g : α → List AV} {xs ys : List α} {ty sz : Nat} (hb : nth s.hp id = some ⟨ty, sz, xs.map g⟩) (hver : n = xs.length) (hty : ty = e) (hsz : sz = ie.sz) (hsrc : SrcA C s ie tx y (ys.map g)) (hbound : (xs.length + ys.length) * ie.bytes ≤ 140737488355328) (h63 : xs.length + ys.length ≤ 9223372036854775807) :
    OpOK C s o (St.put ⟨s.env, s.hp.set id ⟨ty, sz, (xs ++ ys).map g⟩⟩ o.dst (.os id (xs ++ ys).length)) := by
  have := OpOK.append_os hT hd ho hi hk hie hx hb (by simpa using hver) hty hsz hsrc (by simpa using hbound) (by simpa using h63)
  simp only [List.map_append, List.length_append]
  rw [hver] at this
  simpa using this
theorem OpOK.len_os (hT : TsOK C.P T) (hd : dok C.nt o.dst = true) {x : Operand} {t : TypeId} (ho : o.op = .call ⟨.builtin .len, #[x], #[t]⟩) {i : TI} (hi : look T t = some i) {e : TypeId} (hk : i.kd = .sl e) {id n : Nat} (hx : s.ev x = some (.os id n)) {b : Blk} (hb : nth s.hp id = some b) (hver : n = b.rows.length) : OpOK C s o (s.put o.dst (.imm (.int .i64 n))) :=
  OpOK.blen hT hd ho hi hx (by
    have e : Nat.beq n (len b.rows) = true := by rw [len_eq, hver]; simp
    simp only [aLen, hk, hb, e])
end
theorem eqArrL {P : Program} {d : Nat} {w : World} {e : TypeId} (xs ys : Array Value) (f : Nat → Bool) : ∀ (l : List Nat),
  (∀ i ∈ l, ∃ a b, (part e xs (i * 1)).run P w = .ok a w ∧ (part e ys (i * 1)).run P w = .ok b w ∧ (Op.equalIn d e a b).run P w = .ok (f i) w) →
  Sem.run P (forIn l ((none, ()) : Option Bool × Unit) fun i __s => do
            let __do_lift ← part e xs (i * 1)
            let __do_lift_1 ← part e ys (i * 1)
            let __do_lift ← Op.equalIn d e __do_lift __do_lift_1
            if (!__do_lift) = true then pure (ForInStep.done (some false, ())) else pure (ForInStep.yield (none, ()))) w = .ok (if l.all f then (none, ()) else (some false, ())) w
  | [], _ => rfl
  | i :: l, h => by
    obtain ⟨a, b, h1, h2, h3⟩ := h i (by simp)
    have ih := eqArrL xs ys f l (fun j hj => h j (by simp [hj]))
    rw [List.forIn_cons]
    simp only [Sem.run_bind, h1, h2, h3, Result.andThen_ok]
    cases hf : f i
    · simp [hf, pure, Sem.run]
    · simp only [Bool.not_true, Bool.false_eq_true, if_false]
      simp only [pure, Sem.run, List.all_cons, hf, Bool.true_and] at ih ⊢
      exact ih
theorem eqArr {P : Program} {d : Nat} {w : World} {t e : TypeId} {n : Nat} (ht : P.underlying t = some (.array n e)) (hz : (sizeOf e).run P w = .ok 1 w) (xs ys : Array Value) (f : Nat → Bool)
  (h : ∀ i, i < n → ∃ a b, (part e xs (i * 1)).run P w = .ok a w ∧ (part e ys (i * 1)).run P w = .ok b w ∧ (Op.equalIn d e a b).run P w = .ok (f i) w) :
  (Op.equalIn (d + 1) t (.agg xs) (.agg ys)).run P w = .ok ((List.range n).all f) w := by
  simp only [Op.equalIn, Sem.run_bind, run_underlying ht, Result.andThen_ok, hz]
  rw [Std.Legacy.Range.forIn_eq_forIn_range']
  have := eqArrL (P := P) (d := d) (w := w) (e := e) xs ys f (List.range n) (fun i hi => h i (by simpa using hi))
  simp only [Std.Legacy.Range.size]
  rw [show List.range' 0 ((n - 0 + 1 - 1) / 1) 1 = List.range n by rw [List.range_eq_range']; congr 1; simp]
  rw [this]
  cases (List.range n).all f <;> rfl
theorem eqArrI {P : Program} {t e : TypeId} {n : Nat} {k k' : IntKind} {i : TI} (hg : P.eqGuardType P.depth t = false) (ht : P.underlying t = some (.array n e)) (hT : TOk P e i) (ha : i.isAgg = false) (hs : i.sz = 1) (he : P.underlying e = some (.int k')) :
   ∀ (M : Mm) (a b : List Int) (xs ys : List Value) (w : World), a.length = n → b.length = n → All2 (RepA M) (a.map fun x => .imm (.int k x)) xs → All2 (RepA M) (b.map fun x => .imm (.int k x)) ys → (Op.equal t (.agg xs.toArray) (.agg ys.toArray)).run P w = .ok (dec (a = b)) w := by
  intro M a b xs ys w hla hlb hxs hys
  have inv : ∀ {a : List Int} {xs : List Value}, All2 (RepA M) (a.map fun x => .imm (.int k x)) xs → xs = a.map (Value.int k) := by
    intro a
    induction a with
    | nil => intro xs h; cases h; rfl
    | cons x a ih =>
      intro xs h
      cases h with
      | cons h1 h2 => cases h1 with
        | imm _ _ h1 => cases h1; rw [ih h2]; rfl
  have e1 := inv hxs
  have e2 := inv hys
  subst e1 e2
  have hz : (sizeOf e).run P w = .ok 1 w := by rw [← hs]; exact hT.sizeOf w
  refine equal_at 9999 1 rfl ?_
  have := eqArr (d := 9999) (w := w) ht hz (a.map (Value.int k)).toArray (b.map (Value.int k)).toArray (fun i => dec (a.getD i 0 = b.getD i 0)) (fun j hj => ⟨.int k (a.getD j 0), .int k (b.getD j 0), ?_, ?_, ?_⟩)
  · rw [this]
    congr 1
    rw [Bool.eq_iff_iff, dec_true, List.all_eq_true]
    constructor
    · intro h
      apply List.ext_getElem (by omega)
      intro j h1 h2
      have := h j (by simp; omega)
      rw [dec_true] at this
      simpa [List.getD, h1, h2] using this
    · intro h j hj
      rw [dec_true, h]
  · exact part_1 hT ha _ _ (by rw [List.getElem?_map, Nat.mul_one, List.getElem?_eq_getElem (by omega)]; simp [List.getD, List.getElem?_eq_getElem (show j < a.length by omega)])
  · exact part_1 hT ha _ _ (by rw [List.getElem?_map, Nat.mul_one, List.getElem?_eq_getElem (by omega)]; simp [List.getD, List.getElem?_eq_getElem (show j < b.length by omega)])
  · exact eqi_int (d := 9998) he
def ints64 : List AV → Option (List Int)
  | [] => some []
  | .imm (.int .i64 x) :: r => (match ints64 r with
    | some l => some (x :: l)
    | none => none)
  | _ => none
theorem ints64_eq : ∀ {l : List AV} {a : List Int}, ints64 l = some a → l = a.map fun x => .imm (.int .i64 x)
  | [], a, h => by simp only [ints64, Option.some.injEq] at h; subst h; rfl
  | v :: r, a, h => by
    unfold ints64 at h
    split at h
    · rename_i e; cases e
    · rename_i x r' e
      cases e
      split at h
      · rename_i l hl
        obtain rfl := Option.some.inj h
        rw [ints64_eq hl]; rfl
      · cases h
    · cases h
noncomputable def eqvI (n : Nat) (l m : List AV) : Option Bool :=
  match ints64 l with
  | some a => (match ints64 m with
    | some b => (match Nat.beq (len a) n && Nat.beq (len b) n with
      | true => some (dec (a = b))
      | false => none)
    | none => none)
  | none => none
theorem eqtI {P : Program} {t e : TypeId} {n : Nat} {k : IntKind} {i : TI} (hg : P.eqGuardType P.depth t = false) (ht : P.underlying t = some (.array n e)) (hT : TOk P e i) (ha : i.isAgg = false) (hs : i.sz = 1) (he : P.underlying e = some (.int k)) : EqT P t (eqvI n) := by
  refine ⟨hg, fun M l m b xs ys w hf hl hm => ?_⟩
  unfold eqvI at hf
  split at hf
  · rename_i a hA
    split at hf
    · rename_i c hB
      split at hf
      · rename_i hn
        obtain rfl := Option.some.inj hf
        simp only [Bool.and_eq_true] at hn
        have n1 := Nat.eq_of_beq_eq_true hn.1
        have n2 := Nat.eq_of_beq_eq_true hn.2
        rw [len_eq] at n1 n2
        rw [ints64_eq hA] at hl
        rw [ints64_eq hB] at hm
        exact eqArrI hg ht hT ha hs he M a c xs ys w n1 n2 hl hm
      · cases hf
    · cases hf
  · cases hf
section
variable {C : Cx} {s t : St} {γ : Nat → Option Nat} {κ : Nat → Nat} {a : Act} {W : World} {o : Oper} {T : List (Nat × TI)} {l r rest : List Oper} {Q : Exit → St → Prop}
-- regions that draw, with conditions that are not known
theorem LS.sm {f : Fx} (h : Sm s t) (hl : LS C l t o f) : LS C l s o f :=
  ⟨hl.1, fun s' h1 h2 h3 => hl.2 s' (fun x hx => (h1 x hx).trans (h.env x)) (fun p hp => by rw [h2 p hp, h.hp]) (by rw [h3, h.hp])⟩
theorem DW.sm {fs : List Fx} {t2 : St} (hd : DW C l r t fs t2) : ∀ {s : St}, Sm s t → ∃ s2, DW C l r s fs s2 ∧ Sm s2 t2 := by
  induction hd with
  | nil t => intro s h; exact ⟨s, .nil s, h⟩
  | cons h1 h2 ih =>
    intro s h
    obtain ⟨s2, k1, k2⟩ := ih (h.ap _)
    exact ⟨s2, .cons (h1.sm h) k1, k2⟩
def Wk (C : Cx) (Q : Exit → St → Prop) : Exit → St → Prop := fun e s => ∃ s3, Le C s s3 ∧ Q e s3
theorem DQ.sm {acc : List Fx} (h : Sm s t) (hq : DQ C l r t acc (Wk C Q)) : DQ C l r s acc (Wk C Q) := by
  obtain ⟨fs, t2, h1, h2, s3, h3, h4⟩ := hq
  obtain ⟨s2, k1, k2⟩ := h1.sm h
  exact ⟨fs, s2, k1, h2, s3, fun γ κ a W hC => h3 γ κ a W (k2.conc hC), h4⟩
theorem AW.drawW (hm : C.P.follows .mixedOrders = true) {id : Nat} (hback : backOK l 0 = true) (h : DQ C l l s [] (Wk C Q)) : AW C (.region id l.toArray true) Q s := by
  have := AW.drawQ hm (id := id) hback h
  intro γ κ a W hC
  exact wp_mono (this γ κ a W hC) fun e a W ⟨s, γ, κ, h1, s3, h2, h3⟩ => by
    obtain ⟨γ', κ', h4⟩ := h2 γ κ a W h1
    exact ⟨s3, γ', κ', h4, h3⟩
theorem DQ.nilW {acc : List Fx} (hok : allOK acc (anc l []) 0 [] = true) (hQ : Q .normal s) : DQ C l [] s acc (Wk C Q) := DQ.nil hok ⟨s, Le.refl C s, hQ⟩
theorem DQ.split {acc : List Fx} {d : Nat} {b : Bool} (hb : get s.env d = some (.imm (.bool b))) (h1 : b = true → DQ C l r ⟨(d, .imm (.bool true)) :: s.env, s.hp⟩ acc (Wk C Q)) (h2 : b = false → DQ C l r ⟨(d, .imm (.bool false)) :: s.env, s.hp⟩ acc (Wk C Q)) : DQ C l r s acc (Wk C Q) := by
  have key : ∀ c, b = c → Sm s ⟨(d, .imm (.bool c)) :: s.env, s.hp⟩ := by
    intro c e
    refine ⟨fun x => ?_, rfl⟩
    simp only [get]
    split
    · rename_i hx
      have := Nat.eq_of_beq_eq_true hx
      subst this
      rw [hb, e]
    · rfl
  cases hb' : b with
  | true => exact DQ.sm (key true hb') (h1 hb')
  | false => exact DQ.sm (key false hb') (h2 hb')
theorem DQ.gsplit {acc : List Fx} {j d : Nat} {want b : Bool} (hg : o.guard = some (j, want)) (hd : dstOf l j = some d) (hb : get s.env d = some (.imm (.bool b))) (h1 : b = true → DQ C l (o :: r) ⟨(d, .imm (.bool true)) :: s.env, s.hp⟩ acc (Wk C Q)) (h2 : b = false → DQ C l (o :: r) ⟨(d, .imm (.bool false)) :: s.env, s.hp⟩ acc (Wk C Q)) : DQ C l (o :: r) s acc (Wk C Q) := DQ.split hb h1 h2
/-- A slice that was handed in, held against nil: nothing is known but that a nil one has no elements. -/
theorem AL.slnil (hT : TsOK C.P T) (hw : awant l s o = some true) (hd : dok C.nt o.dst = true) {ty t2 : TypeId} {x y : Operand} (ho : o.op = .binOp .eql ty x y t2) {i : TI} (hi : look T ty = some i) {e : TypeId} (hk : i.kd = .sl e) {rows : List (List IV)} (hx : s.ev x = some (.imm (.sl rows))) (hy : s.ev y = some .nils)
    (k : ∀ b, (b = true → rows = []) → AL C l Q rest (s.put o.dst (.imm (.bool b)))) : AL C l Q (o :: rest) s := by
  intro γ κ a W hC
  have h1 := hC.ev hx
  have h2 := hC.ev hy
  obtain ⟨d, d1, d2, _⟩ := (hT ty i hi).und
  rw [hk] at d2
  obtain rfl := kd_sl d2
  obtain ⟨A, n, c, hv, hb⟩ : ∃ A n c, a.eval x = .slice A n c ∧ (A.isNone = true → rows = []) := by
    generalize a.eval x = xv at h1
    cases h1 with
    | imm _ _ h1 => cases h1 with
      | nil A c => exact ⟨A, 0, c, rfl, fun _ => rfl⟩
      | sl _ ad n c => exact ⟨some ad, n, c, rfl, fun h => by cases h⟩
  have hv2 : a.eval y = .slice none 0 0 := by
    generalize a.eval y = yv at h2
    cases h2; rfl
  have hrun : (execOp a.eval o).run C.P W = .ok (.value (.bool A.isNone)) W := bin_run ho (eqGuard_run (by rw [hv, hv2]) W) (by rw [hv, hv2]; exact Lib.run_eql_slice_nil W _ _ A n c 0 0 d1)
  refine wpList_step fun K hK => ?_
  rw [if_pos (awant_ok hC hw)]
  unfold Oper.wp
  rw [hrun]
  exact hK _ _ (k A.isNone hb γ κ _ W (hC.put hd (.imm _ _ (.bool _))))
/-- A list of no elements: it has no room either. -/
theorem OpOK.lit0 (hT : TsOK C.P T) (hd : dok C.nt o.dst = true) {t e : TypeId} {ps : Array (Nat × Operand)} (ho : o.op = .buildSlice t 0 ps) (hp : ps.toList = []) {i ie : TI} (hi : look T t = some i) (hk : i.kd = .sl e) (hie : look T e = some ie) : OpOK C s o (s.put o.dst .nocap) :=
  OpOK.val hd fun γ κ a W hC => by
    have hT' := hT t i hi
    have hTe := hT e ie hie
    obtain ⟨d, d1, d2, d3⟩ := hT'.und
    rw [hk] at d2
    obtain rfl := kd_sl d2
    obtain ⟨_, f2, _, _⟩ := hC.fresh (.cells #[] e)
    have hps : ps = #[] := by simpa using hp
    refine ⟨.slice (some ⟨W.heap.size, 0, none⟩) 0 0, γ, κ, _, ?_, f2, .nocap _⟩
    unfold execOp; rw [ho, hps]
    refine val_run ?_
    unfold Instr.buildSlice
    rw [run_bind (und_run d1 W)]
    simp only
    rw [run_bind (hTe.sizeOf W), if_neg (by omega)]
    rw [if_pos (by omega), run_bind (run_pure _ _)]
    rw [show Array.map (fun x => (#[] : Array Value)[x % (#[] : Array Value).size]!) (Array.range (0 * ie.sz)) = #[] by simp]
    rw [show Instr.fill (fun i => some (i * ie.sz, ie.sz)) (#[] : Array Value) (Array.map (fun x : Nat × Operand => (x.1, a.eval x.2)) #[]).toList = some #[] by simp [Instr.fill]]
    rfl
theorem OpOK.append_nocap0 (hT : TsOK C.P T) (hd : dok C.nt o.dst = true) {x y : Operand} {t tx e : TypeId} (ho : o.op = .call ⟨.builtin .append, #[x, y], #[t, tx]⟩) {i ie : TI} (hi : look T t = some i) (hk : i.kd = .sl e) (hie : look T e = some ie) (hx : s.ev x = some .nocap) (hsrc : SrcA C s ie tx y []) : OpOK C s o (s.put o.dst .nocap) :=
  OpOK.quiet hd fun γ κ a W hC => by
    obtain ⟨d, d1, d2, _⟩ := (hT t i hi).und
    rw [hk] at d2
    obtain rfl := kd_sl d2
    obtain ⟨it, z, i1, i2, i3, i4, i5⟩ := (hT e ie hie).info
    obtain ⟨hr2, hc2, hs⟩ := hsrc
    obtain ⟨news, hs1, hs2⟩ := hs γ κ a W hC
    have hn : news = [] := by cases hs2; rfl
    subst hn
    have h1 := hC.ev hx
    obtain ⟨A, hA⟩ : ∃ A, a.eval x = .slice A 0 0 := by
      generalize a.eval x = xv at h1
      cases h1; exact ⟨_, rfl⟩
    refine ⟨.slice A 0 0, append_exec ho ?_, .nocap A⟩
    rw [hA]
    have hs1' : Src C.P it.size tx (a.eval y) 0 [] W := by rw [i2]; exact hs1
    have hl := hs1'.len
    have hcl := hs1'.cells
    rcases hs1'.kind with ⟨e', hk⟩ | hk <;> cases A <;> simp [Builtin.append_, run_underlying d1, run_underlying hk, Go.sizeOf, typeInfo, i1, hl, hcl, storeCells, pure, Sem.run]
theorem OpOK.append_nocap (hT : TsOK C.P T) (hd : dok C.nt o.dst = true) {x y : Operand} {t tx e : TypeId} (ho : o.op = .call ⟨.builtin .append, #[x, y], #[t, tx]⟩) {i ie : TI} (hi : look T t = some i) (hk : i.kd = .sl e) (hie : look T e = some ie) (hpos : 0 < ie.sz) (hx : s.ev x = some .nocap)
    {rows2 : List (List AV)} (hne : rows2 ≠ []) (hsrc : SrcA C s ie tx y rows2) (hbound : rows2.length * ie.bytes ≤ 140737488355328) (h63 : rows2.length ≤ 9223372036854775807) :
    OpOK C s o (St.put ⟨s.env, s.hp ++ [⟨e, ie.sz, rows2⟩]⟩ o.dst (.os (len s.hp) rows2.length)) :=
  OpOK.val hd fun γ κ a W hC => by
    obtain ⟨d, d1, d2, _⟩ := (hT t i hi).und
    rw [hk] at d2
    obtain rfl := kd_sl d2
    have hTe := hT e ie hie
    obtain ⟨it, z, i1, i2, i3, i4, i5⟩ := hTe.info
    obtain ⟨hr2, hc2, hs⟩ := hsrc
    obtain ⟨news, hs1, hs2⟩ := hs γ κ a W hC
    obtain ⟨γ1, κ1, c1, c2, c3, c4⟩ := hC.reserve e ie.sz hpos
    have h1 := hC.ev hx
    obtain ⟨A, hA⟩ : ∃ A, a.eval x = .slice A 0 0 := by
      generalize a.eval x = xv at h1
      cases h1; exact ⟨_, rfl⟩
    have hs1' : Src C.P it.size tx (a.eval y) rows2.length news W := by rw [i2]; exact hs1
    have hpos2 : 0 < rows2.length := List.length_pos_iff.2 hne
    have hold : (Builtin.firstCells it.size 0 (.slice A 0 0)).run C.P W.drew = .ok ([] : List Value).toArray W.drew := by
      cases A with
      | none => exact run_firstCells_none W.drew it.size 0 0 0
      | some g => exact run_firstCells_some W.drew it.size 0 g 0 0 [] (by simp) (by intro j u hj; simp at hj)
    have hrun := run_append_grow_src W t tx o.type e it z d1 i1 i4 A 0 0 [] hold (a.eval y) rows2.length news hs1' (by omega) (by omega) (growslice_fits (by omega) (by rw [i3, Nat.zero_add]; exact hbound))
    have hge := grownCap_ge W (0 + rows2.length) 0 e
    have hcm : grownCap W (0 + rows2.length) 0 e ≤ maxLen := grownCap_le_maxLen W _ 0 e (by simpa [maxLen] using h63)
    have hzl : z.cells.size = ie.sz := by
      have := (constAVs_rep (M := s.mm C γ κ W) i5).length
      rw [hTe.zl] at this
      simpa using this.symm
    have hnl : news.length = rows2.length * ie.sz := by rw [← hs2.length, flat_len hr2]
    generalize hcap : grownCap W (0 + rows2.length) 0 e = cap at hrun hge hcm
    have hs2' := hs2.mono fun _ _ h => h.keep c4
    obtain ⟨γ', κ', k1, k2, k3⟩ := c1.moved (id := s.hp.length) (b := ⟨e, ie.sz, []⟩) (by simp) (rows2 := rows2) (ys2 := news) (sp2 := (Builtin.zeroCells z.cells (cap - (0 + rows2.length))).toList) (k := cap) (by simpa using hge) hcm (by
        simp only [List.length_append, Array.length_toList, size_zeroCells, hzl, hnl]
        rw [← Nat.add_mul]
        congr 1
        omega) hne hr2 hc2 (by simpa using hs2')
    have e1 : (s.hp ++ [(⟨e, ie.sz, []⟩ : Blk)]).set s.hp.length ⟨e, ie.sz, [] ++ rows2⟩ = s.hp ++ [⟨e, ie.sz, rows2⟩] := by
      rw [List.set_append, if_neg (by omega)]
      simp
    simp only at k1
    rw [e1] at k1
    have e2 : (([] : List Value) ++ news).toArray ++ Builtin.zeroCells z.cells (cap - (0 + rows2.length)) = (news ++ (Builtin.zeroCells z.cells (cap - (0 + rows2.length))).toList).toArray := by
      apply Array.toList_inj.1; simp
    rw [e2] at hrun
    refine ⟨_, γ', κ', _, append_exec ho (by rw [hA]; exact hrun), k1, ?_⟩
    rw [len_eq, Nat.zero_add]
    refine .os _ _ ⟨e, ie.sz, rows2⟩ _ _ _ ?_ (Nat.le_refl _) fun _ => ⟨?_, rfl, k3.symm⟩
    · show (s.hp ++ _)[s.hp.length]? = _
      simp
    · rw [show (St.mm ⟨s.env, s.hp ++ [⟨e, ie.sz, rows2⟩]⟩ C γ' κ' _).γ s.hp.length = γ' s.hp.length from rfl, k2]; rfl
end
end Go.Proofs.YteijifoobaoclaaGreat.A
