/- The abstract walk, part G: building, parts of results, arithmetic, comparing, lengths. -/
import Derived.Test.YteijifoobaoclaaGreatAwF
namespace Go.Proofs.YteijifoobaoclaaGreat.A
open Go.RowKit
set_option linter.unusedVariables false
set_option linter.unusedSimpArgs false
section
variable {C : Cx} {s : St} {γ : Nat → Option Nat} {κ : Nat → Nat} {a : Act} {W : World} {o : Oper} {T : List (Nat × TI)}
def aEx (i : Nat) (v : AV) : Option AV :=
  match v with
  | .tup l => nth l i
  | _ => none
theorem OpOK.extract (hd : dok C.nt o.dst = true) {x : Operand} {i : Nat} (ho : o.op = .extract x i) {q : AV} (hx : s.ev x = some q) {v : AV} (h : aEx i q = some v) : OpOK C s o (s.put o.dst v) := by
  unfold aEx at h
  split at h
  · rw [nth_eq] at h
    refine OpOK.quiet hd fun γ κ a W hC => ?_
    have hq := hC.ev hx
    have hex : ∀ z, (Instr.extract (a.eval x) i).run C.P W = .ok z W → (execOp a.eval o).run C.P W = .ok (.value z) W := by
      intro z hz; unfold execOp; rw [ho]; exact val_run hz
    generalize a.eval x = y at hq hex
    cases hq with
    | tup _ xs hl =>
      obtain ⟨z, h1, h2⟩ := hl.get h
      refine ⟨z, hex z ?_, h2⟩
      unfold Instr.extract
      simp only [List.getElem?_toArray, h1]
      rfl
  · cases h
def evs (s : St) : List Operand → Option (List AV)
  | [] => some []
  | x :: l => match s.ev x with
    | none => none
    | some v => match evs s l with
      | none => none
      | some vs => some (v :: vs)
theorem Conc.evs (hC : Conc C s γ κ a W) : ∀ {l : List Operand} {vs : List AV}, A.evs s l = some vs → All2 (RepA (s.mm C γ κ W)) vs (l.map a.eval)
  | [], vs, h => by simp only [A.evs, Option.some.injEq] at h; subst h; exact .nil
  | x :: l, vs, h => by
    simp only [A.evs] at h
    split at h
    · cases h
    · rename_i v hv
      split at h
      · cases h
      · rename_i vs' hvs
        obtain rfl := Option.some.inj h
        exact .cons (hC.ev hv) (hC.evs hvs)
def aFn (f : Nat) (caps : List AV) : AV :=
  match caps with
  | [] => .imm (.fn f)
  | c :: r => .fn f (c :: r)
theorem OpOK.makeFunc (hd : dok C.nt o.dst = true) {f : Nat} {caps : Array Operand} (ho : o.op = .makeFunc (.func f) #[] caps) {vs : List AV} (hx : evs s caps.toList = some vs) : OpOK C s o (s.put o.dst (aFn f vs)) :=
  OpOK.quiet hd fun γ κ a W hC => by
    have hq := hC.evs hx
    refine ⟨.func (.func f) #[] (caps.map a.eval), ?_, ?_⟩
    · unfold execOp; rw [ho]
      show (do pure (Next.value (← Instr.makeFunc (.func f) ((#[] : Array Operand).map a.eval) (caps.map a.eval))) : Sem Next).run C.P W = _
      rw [Array.map_empty]; exact val_run rfl
    · have e : caps.map a.eval = (caps.toList.map a.eval).toArray := by apply Array.toList_inj.1; simp
      rw [e]
      generalize caps.toList.map a.eval = xs at hq
      unfold aFn
      cases hq with
      | nil => exact .imm _ _ (.fn _)
      | cons h1 h2 => exact .fn _ _ _ (.cons h1 h2)
theorem OpOK.not (hd : dok C.nt o.dst = true) {x : Operand} {t : TypeId} (ho : o.op = .unOp .not t x) {b : Bool} (hx : s.ev x = some (.imm (.bool b))) : OpOK C s o (s.put o.dst (.imm (.bool !b))) :=
  OpOK.quiet hd fun γ κ a W hC => by
    have hq := hC.ev hx
    cases hq with
    | imm _ _ h =>
      refine ⟨_, ?_, .imm _ _ (.bool _)⟩
      unfold execOp; rw [ho]
      simp only [h.bool_inv]
      rfl
theorem OpOK.neg (hd : dok C.nt o.dst = true) {x : Operand} {t : TypeId} (ho : o.op = .unOp .neg t x) {k : IntKind} {n : Int} (hx : s.ev x = some (.imm (.int k n))) : OpOK C s o (s.put o.dst (.imm (.int k (k.wrap (0 - n))))) :=
  OpOK.quiet hd fun γ κ a W hC => by
    have hq := hC.ev hx
    cases hq with
    | imm _ _ h =>
      refine ⟨_, ?_, .imm _ _ (.int _ _)⟩
      unfold execOp; rw [ho]
      simp only [h.int_inv]
      rfl
theorem eqGuard_run {P : Program} {op : BinOp} {t : TypeId} {x y : Operand} {u v : Value} (h : (match u, v with | .nilIface, .nilIface => false | .agg _, .agg _ => false | _, _ => true) = true) (w : World) : (eqGuard op t x y u v).run P w = .ok () w := by
  cases u <;> cases v <;> first | (simp at h; done) | (unfold eqGuard; cases op <;> rfl)
theorem bin_run {op : BinOp} {t t2 : TypeId} {x y : Operand} (ho : o.op = .binOp op t x y t2) {P : Program} {ρ : Operand → Value} {z : Value} {w : World} (h1 : (eqGuard op t x y (ρ x) (ρ y)).run P w = .ok () w) (h2 : (binOp op t (ρ x) (ρ y)).run P w = .ok z w) : (execOp ρ o).run P w = .ok (.value z) w := by
  unfold execOp; rw [ho]
  refine val_run ?_
  rw [run_bind h1]; exact h2
/-- decided, without a way to reckon it. -/
noncomputable def dec (p : Prop) : Bool := @decide p (Classical.propDecidable p)
theorem dec_eq (p : Prop) [h : Decidable p] : dec p = decide p := by
  unfold dec
  congr
theorem dec_true (p : Prop) : (dec p = true) = p := by simp [dec_eq, dec]
theorem dec_false (p : Prop) : (dec p = false) = ¬ p := by simp [dec]
theorem dec_T : dec True = true := by simp [dec]
theorem dec_F : dec False = false := by simp [dec]
theorem dec_pos {p : Prop} (h : p) : dec p = true := by rw [dec_true]; exact h
theorem dec_neg {p : Prop} (h : ¬ p) : dec p = false := by rw [dec_false]; exact h
noncomputable def iCmp (op : BinOp) (a b : Int) : Option Bool :=
  match op with
  | .eql => some (dec (a = b))
  | .neq => some (!dec (a = b))
  | .lss => some (dec (a < b))
  | .leq => some (dec (a ≤ b))
  | .gtr => some (dec (b < a))
  | .geq => some (dec (b ≤ a))
  | _ => none
def iAri (op : BinOp) (a b : Int) : Option Int :=
  match op with
  | .add => some (a + b)
  | .sub => some (a - b)
  | .mul => some (a * b)
  | _ => none
theorem OpOK.cmp (hd : dok C.nt o.dst = true) {op : BinOp} {t t2 : TypeId} {x y : Operand} (ho : o.op = .binOp op t x y t2) {k : IntKind} {m n : Int} (hx : s.ev x = some (.imm (.int k m))) (hy : s.ev y = some (.imm (.int k n))) {b : Bool} (h : iCmp op m n = some b) : OpOK C s o (s.put o.dst (.imm (.bool b))) :=
  OpOK.quiet hd fun γ κ a W hC => by
    have h1 := hC.ev hx
    have h2 := hC.ev hy
    cases h1 with
    | imm _ _ h1 => cases h2 with
      | imm _ _ h2 =>
        refine ⟨.bool b, ?_, .imm _ _ (.bool _)⟩
        refine bin_run ho (by rw [h1.int_inv, h2.int_inv]; exact eqGuard_run rfl W) ?_
        rw [h1.int_inv, h2.int_inv]
        unfold iCmp at h
        split at h <;> first | (cases h; done) | (obtain rfl := Option.some.inj h; simp [binOp, Op.intCmp, pure, Sem.run, dec_eq]; done) | (obtain rfl := Option.some.inj h; simp [binOp, Op.intCmp, pure, Sem.run, dec_eq, bne]; rw [Bool.eq_iff_iff]; simp; done)
theorem OpOK.ari (hd : dok C.nt o.dst = true) {op : BinOp} {t t2 : TypeId} {x y : Operand} (ho : o.op = .binOp op t x y t2) {k : IntKind} {m n : Int} (hx : s.ev x = some (.imm (.int k m))) (hy : s.ev y = some (.imm (.int k n))) {z : Int} (h : iAri op m n = some z) : OpOK C s o (s.put o.dst (.imm (.int k (k.wrap z)))) :=
  OpOK.quiet hd fun γ κ a W hC => by
    have h1 := hC.ev hx
    have h2 := hC.ev hy
    cases h1 with
    | imm _ _ h1 => cases h2 with
      | imm _ _ h2 =>
        refine ⟨.int k (k.wrap z), ?_, .imm _ _ (.int _ _)⟩
        refine bin_run ho (by rw [h1.int_inv, h2.int_inv]; exact eqGuard_run rfl W) ?_
        rw [h1.int_inv, h2.int_inv]
        unfold iAri at h
        split at h <;> first | (cases h; done) | (obtain rfl := Option.some.inj h; simp [binOp, Op.intArith, pure, Sem.run])
theorem i64_id {n : Int} (h0 : -9223372036854775808 ≤ n) (h1 : n ≤ 9223372036854775807) : IntKind.i64.wrap n = n := by
  simp [IntKind.wrap, IntKind.bits, IntKind.signed]
  omega
theorem OpOK.ari64 (hd : dok C.nt o.dst = true) {op : BinOp} {t t2 : TypeId} {x y : Operand} (ho : o.op = .binOp op t x y t2) {m n : Int} (hx : s.ev x = some (.imm (.int .i64 m))) (hy : s.ev y = some (.imm (.int .i64 n))) {z : Int} (h : iAri op m n = some z)
    (h0 : -9223372036854775808 ≤ z) (h1 : z ≤ 9223372036854775807) : OpOK C s o (s.put o.dst (.imm (.int .i64 z))) := by
  have := OpOK.ari hd ho hx hy h
  rwa [i64_id h0 h1] at this
theorem bytes_eq (x y : ByteArray) : (x.toList == y.toList) = decide (x = y) := by
  rw [Bool.eq_iff_iff]
  simp only [beq_iff_eq, decide_eq_true_eq]
  constructor
  · intro h
    have h1 : x.data.toList = y.data.toList := by rw [← ByteArray.toList_eq, ← ByteArray.toList_eq]; exact h
    cases x; cases y
    simp only [ByteArray.mk.injEq]
    exact Array.toList_inj.1 h1
  · intro h; rw [h]
noncomputable def sCmp (op : BinOp) (x y : ByteArray) : Option Bool :=
  match op with
  | .eql => some (dec (x = y))
  | .neq => some (!dec (x = y))
  | _ => none
theorem OpOK.scmp (hd : dok C.nt o.dst = true) {op : BinOp} {t t2 : TypeId} {x y : Operand} (ho : o.op = .binOp op t x y t2) {m n : ByteArray} (hx : s.ev x = some (.imm (.str m))) (hy : s.ev y = some (.imm (.str n))) {b : Bool} (h : sCmp op m n = some b) : OpOK C s o (s.put o.dst (.imm (.bool b))) :=
  OpOK.quiet hd fun γ κ a W hC => by
    have h1 := hC.ev hx
    have h2 := hC.ev hy
    cases h1 with
    | imm _ _ h1 => cases h2 with
      | imm _ _ h2 =>
        refine ⟨.bool b, ?_, .imm _ _ (.bool _)⟩
        refine bin_run ho (by rw [h1.str_inv, h2.str_inv]; exact eqGuard_run rfl W) ?_
        rw [h1.str_inv, h2.str_inv]
        unfold sCmp at h
        split at h <;> first | (cases h; done) | (obtain rfl := Option.some.inj h; simp only [binOp, Op.stringOp, bytes_eq, dec_eq]; rfl)
theorem OpOK.cat (hd : dok C.nt o.dst = true) {t t2 : TypeId} {x y : Operand} (ho : o.op = .binOp .add t x y t2) {m n : ByteArray} (hx : s.ev x = some (.imm (.str m))) (hy : s.ev y = some (.imm (.str n))) (hlen : (m.size : Int) + n.size ≤ 9223372036854775807) : OpOK C s o (s.put o.dst (.imm (.str (m ++ n)))) :=
  OpOK.quiet hd fun γ κ a W hC => by
    have h1 := hC.ev hx
    have h2 := hC.ev hy
    cases h1 with
    | imm _ _ h1 => cases h2 with
      | imm _ _ h2 =>
        refine ⟨.string (m ++ n), ?_, .imm _ _ (.str _)⟩
        refine bin_run ho (by rw [h1.str_inv, h2.str_inv]; exact eqGuard_run rfl W) ?_
        rw [h1.str_inv, h2.str_inv]
        simp only [binOp, Op.stringOp]
        have e : IntKind.i64.max = 9223372036854775807 := by decide
        rw [if_neg (by rw [e]; omega)]
        rfl
def bCmp (op : BinOp) (x y : Bool) : Option Bool :=
  match op with
  | .eql => some (x == y)
  | .neq => some (!(x == y))
  | _ => none
theorem und_run {P : Program} {t : TypeId} {d : TypeDesc} (h : P.underlying t = some d) (w : World) : (underlying t).run P w = .ok d w := by
  unfold underlying
  simp only [program]
  simp [h, bind, Sem.bind, pure, Sem.run]
theorem OpOK.bcmp (hT : TsOK C.P T) (hd : dok C.nt o.dst = true) {op : BinOp} {t t2 : TypeId} {x y : Operand} (ho : o.op = .binOp op t x y t2) {i : TI} (hi : look T t = some i) (hk : (match i.kd with | .bool => true | _ => false) = true) {m n : Bool} (hx : s.ev x = some (.imm (.bool m))) (hy : s.ev y = some (.imm (.bool n))) {b : Bool} (h : bCmp op m n = some b) : OpOK C s o (s.put o.dst (.imm (.bool b))) :=
  OpOK.quiet hd fun γ κ a W hC => by
    have h1 := hC.ev hx
    have h2 := hC.ev hy
    obtain ⟨d, hd1, hd2, _⟩ := (hT t i hi).und
    have hd3 : d = .bool := by
      rw [← hd2] at hk
      cases d <;> first | rfl | (simp [kdOf] at hk)
    subst hd3
    cases h1 with
    | imm _ _ h1 => cases h2 with
      | imm _ _ h2 =>
        refine ⟨.bool b, ?_, .imm _ _ (.bool _)⟩
        refine bin_run ho (by rw [h1.bool_inv, h2.bool_inv]; exact eqGuard_run rfl W) ?_
        rw [h1.bool_inv, h2.bool_inv]
        have he : (Op.equal t (.bool m) (.bool n)).run C.P W = .ok (m == n) W := by
          unfold Op.equal Op.maxDepth Op.equalIn
          rw [run_bind (und_run hd1 W)]
          rfl
        unfold bCmp at h
        split at h <;> first | (cases h; done) | (obtain rfl := Option.some.inj h; simp only [binOp]; rw [run_bind he]; rfl)
theorem OpOK.convInt (hT : TsOK C.P T) (hd : dok C.nt o.dst = true) {t t2 : TypeId} {x : Operand} (ho : o.op = .convert t t2 x) {i i2 : TI} (hi : look T t = some i) (hi2 : look T t2 = some i2) {k k2 : IntKind} (hk : i2.kd = .int k2) {n : Int} (hx : s.ev x = some (.imm (.int k n))) : OpOK C s o (s.put o.dst (.imm (.int k2 (k2.wrap n)))) :=
  OpOK.quiet hd fun γ κ a W hC => by
    have h1 := hC.ev hx
    obtain ⟨d, hd1, hd2, _⟩ := (hT t i hi).und
    obtain ⟨e, he1, he2, _⟩ := (hT t2 i2 hi2).und
    have hd3 : e = .int k2 := by
      rw [hk] at he2
      cases e <;> simp [kdOf] at he2
      rw [he2]
    subst hd3
    cases h1 with
    | imm _ _ h1 =>
      refine ⟨_, ?_, .imm _ _ (.int _ _)⟩
      unfold execOp; rw [ho]
      refine val_run ?_
      rw [h1.int_inv]
      unfold convert
      rw [run_bind (und_run hd1 W), run_bind (und_run he1 W)]
      rfl
def isPtr (s : St) (q : AV) : Bool :=
  match q with
  | .ptr id ver _ _ => (match nth s.hp id with
    | some b => Nat.beq ver (len b.rows)
    | none => false)
  | .pin _ => true
  | .fn _ _ => true
  | .imm (.fn _) => true
  | _ => false
theorem OpOK.nilCheck (hd : dok C.nt o.dst = true) {x : Operand} (ho : o.op = .nilCheck x) {q : AV} (hx : s.ev x = some q) (hq : isPtr s q = true) : OpOK C s o (s.put o.dst q) :=
  OpOK.quiet hd fun γ κ a W hC => by
    have h1 := hC.ev hx
    refine ⟨a.eval x, ?_, h1⟩
    unfold execOp; rw [ho]
    simp only
    generalize a.eval x = y at h1
    unfold isPtr at hq
    split at hq
    · split at hq
      · rename_i b hb
        have hver := Nat.eq_of_beq_eq_true hq
        rw [len_eq] at hver
        rw [nth_eq] at hb
        obtain ⟨g, _, rfl⟩ := h1.ptr_val hb hver
        rfl
      · cases hq
    · cases h1; rfl
    · cases h1; rfl
    · cases h1 with
      | imm _ _ h => cases h; rfl
    · cases hq
def aLen (s : St) (i : TI) (v : AV) : Option Int :=
  match i.kd with
  | .sl _ => (match v with
    | .imm (.sl rows) => some rows.length
    | .nils => some 0
    | .os id n => (match nth s.hp id with
      | some b => (match Nat.beq n (len b.rows) with
        | true => some n
        | false => none)
      | none => none)
    | _ => none)
  | .str => (match v with
    | .imm (.str t) => some t.size
    | _ => none)
  | _ => none
theorem RepA.os_val {M : Mm} {id n : Nat} {b : Blk} {x : Value} (h : RepA M (.os id n) x) (hb : M.hp[id]? = some b) (hver : n = b.rows.length) : x = .slice ((M.γ id).map fun g => ⟨g, 0, none⟩) n (M.κ id) := by
  cases h with
  | os _ _ b' A k c hb' hv hx =>
    rw [hb] at hb'; cases hb'
    obtain ⟨h1, h2, h3⟩ := hx hver
    rw [h1, h2, h3]
theorem kd_sl {d : TypeDesc} {e : TypeId} (h : kdOf d = .sl e) : d = .slice e := by
  cases d <;> simp [kdOf] at h
  rw [h]
theorem kd_str {d : TypeDesc} (h : kdOf d = .str) : d = .string := by
  cases d <;> simp [kdOf] at h
  rfl
theorem call_builtin {b : Builtin} {args : Array Operand} {ats : Array TypeId} (ho : o.op = .call ⟨.builtin b, args, ats⟩) {P : Program} {ρ : Operand → Value} {w : World} :
    (execOp ρ o).run P w = (builtin b ats o.type (args.map fun | .const _ => true | _ => false) (args.map ρ)).run P w := by
  unfold execOp; rw [ho]
  rfl
theorem OpOK.blen (hT : TsOK C.P T) (hd : dok C.nt o.dst = true) {x : Operand} {t : TypeId} (ho : o.op = .call ⟨.builtin .len, #[x], #[t]⟩) {i : TI} (hi : look T t = some i) {q : AV} (hx : s.ev x = some q) {n : Int} (h : aLen s i q = some n) : OpOK C s o (s.put o.dst (.imm (.int .i64 n))) :=
  OpOK.quiet hd fun γ κ a W hC => by
    have h1 := hC.ev hx
    refine ⟨.int .i64 n, ?_, .imm _ _ (.int _ _)⟩
    rw [call_builtin ho]
    have key : (Builtin.len_ #[t] o.type #[a.eval x]).run C.P W = .ok (.int .i64 n) W → (builtin .len #[t] o.type ((#[x] : Array Operand).map fun | .const _ => true | _ => false) ((#[x] : Array Operand).map a.eval)).run C.P W = .ok (.value (.int .i64 n)) W := by
      intro h
      simp only [builtin, List.map_toArray, List.map_cons, List.map_nil]
      rw [run_bind h]; rfl
    refine key ?_
    generalize a.eval x = y at h1
    obtain ⟨d, hd1, hd2, _⟩ := (hT t i hi).und
    unfold aLen at h
    unfold Builtin.len_
    simp only [List.getElem?_toArray, List.getElem?_cons_zero]
    split at h
    · rename_i e he
      rw [he] at hd2
      obtain rfl := kd_sl hd2
      rw [run_bind (und_run hd1 W)]
      split at h
      · obtain rfl := Option.some.inj h
        cases h1 with
        | imm _ _ h1 =>
          obtain ⟨A, c, rfl, _⟩ := h1.sl_inv
          rfl
      · obtain rfl := Option.some.inj h
        cases h1; rfl
      · split at h
        · rename_i b hb
          split at h
          · rename_i hver
            have hver := Nat.eq_of_beq_eq_true hver
            rw [len_eq] at hver
            rw [nth_eq] at hb
            obtain rfl := Option.some.inj h
            rw [h1.os_val hb hver]
            rfl
          · cases h
        · cases h
      · cases h
    · rename_i he
      rw [he] at hd2
      obtain rfl := kd_str hd2
      rw [run_bind (und_run hd1 W)]
      split at h
      · obtain rfl := Option.some.inj h
        cases h1 with
        | imm _ _ h1 => rw [h1.str_inv]; rfl
      · cases h
    · cases h
end
end Go.Proofs.YteijifoobaoclaaGreat.A
