/- The abstract walk, part Zg: numbers turned into other kinds, the lesser and the greater one. -/
import Derived.Test.YtmhejcnaanocpaaGreatCDOneGrpAR
import Derived.Laws.BitsLemmas
import Derived.Laws.Bits64
import Derived.Test.YtmhejcnaanocpaaGreatCDOneGrpAU
import Derived.Test.YtmhejcnaanocpaaGreatCDOneGrpAQ
namespace Go.Proofs.YtmhejcnaanocpaaGreat.A
open Go.RowKit
set_option linter.unusedVariables false
set_option linter.unusedSimpArgs false
section
variable {C : Cx} {s : St} {o : Oper} {T : List (Nat × TI)} {l : List Oper}
theorem OpOK.convTo (hT : TsOK C.P T) (hd : dok C.nt o.dst = true) {t t2 : TypeId} {x : Operand} (ho : o.op = .convert t t2 x) {i i2 : TI} (hi : look T t = some i) (hi2 : look T t2 = some i2) {k k2 : IntKind} (hk : i2.kd = .int k2) {n : Int} (hx : s.ev x = some (.imm (.int k n))) (hw : k2.wrap n = n) : OpOK C s o (s.put o.dst (.imm (.int k2 n))) := by
  have := OpOK.convInt hT hd ho hi hi2 hk hx
  rwa [hw] at this
theorem OpOK.toU64 (hT : TsOK C.P T) (hd : dok C.nt o.dst = true) {t t2 : TypeId} {x : Operand} (ho : o.op = .convert t t2 x) {i i2 : TI} (hi : look T t = some i) (hi2 : look T t2 = some i2) {k : IntKind} (hk : i2.kd = .int .u64) {n : Int} (hx : s.ev x = some (.imm (.int k n))) (h0 : 0 ≤ n) (h1 : n < 18446744073709551616) : OpOK C s o (s.put o.dst (.imm (.int .u64 n))) :=
  OpOK.convTo hT hd ho hi hi2 hk hx (by rw [IntKind.wrap_u64]; omega)
theorem OpOK.toI64 (hT : TsOK C.P T) (hd : dok C.nt o.dst = true) {t t2 : TypeId} {x : Operand} (ho : o.op = .convert t t2 x) {i i2 : TI} (hi : look T t = some i) (hi2 : look T t2 = some i2) {k : IntKind} (hk : i2.kd = .int .i64) {n : Int} (hx : s.ev x = some (.imm (.int k n))) (h0 : -9223372036854775808 ≤ n) (h1 : n < 9223372036854775808) : OpOK C s o (s.put o.dst (.imm (.int .i64 n))) :=
  OpOK.convTo hT hd ho hi hi2 hk hx (by rw [IntKind.wrap_i64]; omega)
theorem OpOK.toU32 (hT : TsOK C.P T) (hd : dok C.nt o.dst = true) {t t2 : TypeId} {x : Operand} (ho : o.op = .convert t t2 x) {i i2 : TI} (hi : look T t = some i) (hi2 : look T t2 = some i2) {k : IntKind} (hk : i2.kd = .int .u32) {n : Int} (hx : s.ev x = some (.imm (.int k n))) (h0 : 0 ≤ n) (h1 : n < 4294967296) : OpOK C s o (s.put o.dst (.imm (.int .u32 n))) :=
  OpOK.convTo hT hd ho hi hi2 hk hx (by rw [IntKind.wrap_u32]; omega)
theorem OpOK.min2 (hd : dok C.nt o.dst = true) {x y : Operand} {t t2 : TypeId} (ho : o.op = .call ⟨.builtin .min, #[x, y], #[t, t2]⟩) {k k2 : IntKind} {m n : Int} (hx : s.ev x = some (.imm (.int k m))) (hy : s.ev y = some (.imm (.int k2 n))) : OpOK C s o (s.put o.dst (.imm (.int k (min m n)))) :=
  OpOK.quiet hd fun γ κ a W hC => by
    have h1 := hC.ev hx
    have h2 := hC.ev hy
    cases h1 with
    | imm _ _ h1 => cases h2 with
      | imm _ _ h2 =>
        refine ⟨.int k (if n < m then n else m), ?_, ?_⟩
        · unfold execOp; rw [ho]
          simp only [resolve, invoke, builtin, Sem.run_bind, Sem.run_pure, Result.andThen_ok, List.map_toArray, List.map_cons, List.map_nil, h1.int_inv, h2.int_inv]
          rfl
        · rw [show (if n < m then n else m) = min m n by split <;> omega]
          exact .imm _ _ (.int _ _)
theorem OpOK.max2 (hd : dok C.nt o.dst = true) {x y : Operand} {t t2 : TypeId} (ho : o.op = .call ⟨.builtin .max, #[x, y], #[t, t2]⟩) {k k2 : IntKind} {m n : Int} (hx : s.ev x = some (.imm (.int k m))) (hy : s.ev y = some (.imm (.int k2 n))) : OpOK C s o (s.put o.dst (.imm (.int k (max m n)))) :=
  OpOK.quiet hd fun γ κ a W hC => by
    have h1 := hC.ev hx
    have h2 := hC.ev hy
    cases h1 with
    | imm _ _ h1 => cases h2 with
      | imm _ _ h2 =>
        refine ⟨.int k (if n > m then n else m), ?_, ?_⟩
        · unfold execOp; rw [ho]
          simp only [resolve, invoke, builtin, Sem.run_bind, Sem.run_pure, Result.andThen_ok, List.map_toArray, List.map_cons, List.map_nil, h1.int_inv, h2.int_inv]
          rfl
        · rw [show (if n > m then n else m) = max m n by split <;> omega]
          exact .imm _ _ (.int _ _)
theorem LS.max2 (hw : awant l s o = some true) (hd : dok C.nt o.dst = true) {x y : Operand} {t t2 : TypeId} (ho : o.op = .call ⟨.builtin .max, #[x, y], #[t, t2]⟩) {k k2 : IntKind} {m n : Int} (hx : s.ev x = some (.imm (.int k m))) (hy : s.ev y = some (.imm (.int k2 n))) : LS C l s o (mkFx l s o (.val (.imm (.int k (max m n)))) []) :=
  LS.quiet [] hw fun s' hl => OpOK.max2 hd ho ((hl.ev x (by rw [ho]; simp [Op.operands, Call.operands])).trans hx) ((hl.ev y (by rw [ho]; simp [Op.operands, Call.operands])).trans hy)
end
end Go.Proofs.YtmhejcnaanocpaaGreat.A
namespace Go.Proofs.YtmhejcnaanocpaaGreat.A
set_option linter.unusedVariables false
set_option linter.unusedSimpArgs false
set_option maxRecDepth 100000
set_option maxHeartbeats 4000000
def idxGo : List Int → Int → Int → Int
  | [], _, _ => -1
  | y :: l, x, k => if x = y then k else idxGo l x (k + 1)
def idx (l : List Int) (x : Int) : Int := idxGo l x 0
theorem idxGo_lt : ∀ (l : List Int) (x k : Int), 0 ≤ k → -1 ≤ idxGo l x k ∧ idxGo l x k < k + l.length ∨ (l = [] ∧ idxGo l x k = -1)
  | [], _, _, _ => .inr ⟨rfl, rfl⟩
  | y :: l, x, k, hk => by
    refine .inl ?_
    unfold idxGo
    split
    · simp only [List.length_cons]; omega
    · rcases idxGo_lt l x (k + 1) (by omega) with h | ⟨_, h⟩
      · simp only [List.length_cons]; omega
      · rw [h]; simp only [List.length_cons]; omega
theorem idx_lo (l : List Int) (x : Int) : -1 ≤ idx l x := by
  rcases idxGo_lt l x 0 (by omega) with h | ⟨_, h⟩
  · exact h.1
  · unfold idx; rw [h]; omega
theorem idx_hi (l : List Int) (x : Int) : idx l x < l.length ∨ idx l x = -1 := by
  rcases idxGo_lt l x 0 (by omega) with h | ⟨_, h⟩
  · left; have := h.2; unfold idx; omega
  · right; exact h
theorem index_c (l : List Int) (x : Int) (hl : l.length ≤ 1000000000) : PureC Tryz.prog 82 [.imm (.sl (l.map i64)), iav x] (iav (idx l x)) := by
  refine PureC.mk tabs Tryz.func82 19 [.tmp 4] rfl rfl rfl rfl rfl ?_; intro w0 X
  (repeat' (first | ((with_reducible show AL _ _ _ _ _); first | (refine AL.step tabs rfl ?_; try dsimp only [len, List.nil_append, List.cons_append]) | refine AL.nil ?_ | (refine AL.op rfl (OpOK.ari64 rfl rfl rfl rfl rfl (by omega) (by omega)) ?_) | (refine AL.op rfl (OpOK.index_map tabs rfl rfl rfl rfl rfl rfl rfl (fun _ => rfl) (by decide) (by omega) (by omega)) ?_)) | fail | refine AW.seq ?_ | refine AW.region ?_ | refine Then.norm ?_ | refine AW.skip ?_ | refine AW.block ?_ | refine InB.norm ?_ | refine AW.condT rfl ?_ | refine AW.condF rfl ?_ | (refine AW.cond rfl (fun hc => ?_) (fun hc => ?_) <;> (try simp only [hsx] at hc) <;> (try first | (exfalso; omega) | contradiction | (exfalso; simp [dec_eq] at hc; done))) | refine AW.ret ?_ | refine AW.exit ?_ | refine Then.ret ?_ | refine Then.exit ?_ | refine InB.ret ?_ | refine InB.here ?_ | refine InB.off rfl ?_ | refine Rnd.ret ?_ | refine Rnd.exit ?_))
  refine AW.loop (α := Int) (fun i => ⟨[(0, .imm (.sl (l.map i64))), (1, iav x), (7, iav (l.map i64).length), (8, iav i)], []⟩) (fun i => 0 ≤ i ∧ i ≤ l.length ∧ idx l x = idxGo (l.drop i.toNat) x i) (fun i => (l.length - i).toNat) 0 (Le.cut 0 rfl (by repeat' (first | exact trivial | refine ⟨rfl, ?_⟩)) rfl rfl (Nat.zero_le _)) ⟨by omega, by omega, rfl⟩ ?_
  intro i ⟨h0, h1, h2⟩
  (repeat' (first | ((with_reducible show AL _ _ _ _ _); first | (refine AL.step tabs rfl ?_; try dsimp only [len, List.nil_append, List.cons_append]) | refine AL.nil ?_ | (refine AL.op rfl (OpOK.ari64 rfl rfl rfl rfl rfl (by omega) (by omega)) ?_) | (refine AL.op rfl (OpOK.index_map tabs rfl rfl rfl rfl rfl rfl rfl (fun _ => rfl) (by decide) (by omega) (by omega)) ?_)) | refine AW.seq ?_ | refine AW.region ?_ | refine Then.norm ?_ | refine AW.skip ?_ | refine AW.block ?_ | refine InB.norm ?_ | refine AW.condT rfl ?_ | refine AW.condF rfl ?_ | (refine AW.cond rfl (fun hc => ?_) (fun hc => ?_) <;> (try simp only [hsx] at hc) <;> (try first | (exfalso; omega) | contradiction | (exfalso; simp [dec_eq] at hc; done))) | refine AW.ret ?_ | refine AW.exit ?_ | refine Then.ret ?_ | refine Then.exit ?_ | refine InB.ret ?_ | refine InB.here ?_ | refine InB.off rfl ?_ | refine Rnd.ret ?_ | refine Rnd.exit ?_))
  · rw [drop_next h0 (by assumption)] at h2
    unfold idxGo at h2
    rw [if_pos hc] at h2
    rw [h2]
    exact RQ.fin rfl rfl rfl
  · rw [drop_next h0 (by assumption)] at h2
    unfold idxGo at h2
    rw [if_neg hc] at h2
    exact Rnd.norm (i + 1) (Le.cut 0 rfl (by repeat' (first | exact trivial | refine ⟨rfl, ?_⟩)) rfl rfl (Nat.zero_le _)) ⟨by omega, by omega, h2⟩ (by omega)
  · rw [List.drop_eq_nil_of_le (by omega)] at h2
    rw [h2]
    exact RQ.fin rfl rfl rfl
/-- where a node stands beside others. -/
noncomputable def besideP (f : List Node) (h b : Int) : Int :=
  if (nodeAt f h).parent = 0 then 0 else if idx (nodeAt f (nodeAt f h).parent).kids h + b < 0 ∨ (nodeAt f (nodeAt f h).parent).kids.length ≤ idx (nodeAt f (nodeAt f h).parent).kids h + b then 0 else atI (nodeAt f (nodeAt f h).parent).kids (idx (nodeAt f (nodeAt f h).parent).kids h + b)
def placeP (f : List Node) (h : Int) : Int := max (idx (nodeAt f (nodeAt f h).parent).kids h) 0
theorem beside_c (f : List Node) (h b : Int) (hf : Fit f) (hb0 : -1000 ≤ b) (hb1 : b ≤ 1000) : PureC Tryz.prog 44 [fav f, iav h, iav b] (iav (besideP f h b)) := by
  have hl := hf.len
  obtain ⟨q, hq⟩ : ∃ q, q = (nodeAt f h).parent := ⟨_, rfl⟩
  obtain ⟨n, hn⟩ : ∃ n, n = nodeAt f q := ⟨_, rfl⟩
  have hk : n.kids.length ≤ 1000000000 := by rw [hn]; exact (hf.at q).kids
  have hml : (n.kids.map i64).length = n.kids.length := List.length_map _
  have h3 := idx_lo n.kids h
  have h4 := idx_hi n.kids h
  have e : besideP f h b = if q = 0 then 0 else if idx n.kids h + b < 0 ∨ (n.kids.length : Int) ≤ idx n.kids h + b then 0 else atI n.kids (idx n.kids h + b) := by unfold besideP; rw [← hq, ← hn]
  have c1 := treeAt_c f h hl
  have c2 := treeAt_c f q hl
  rw [← hn] at c2
  obtain ⟨m, hm⟩ : ∃ m, m = nodeAt f h := ⟨_, rfl⟩
  rw [← hm] at hq c1
  subst hq
  rw [e]
  refine PureC.mk tabs Tryz.func44 37 [.tmp 6] rfl rfl rfl rfl rfl ?_; intro w0 X
  (repeat' (first | ((with_reducible show AL _ _ _ _ _); first | (refine AL.step tabs rfl ?_; try dsimp only [len, List.nil_append, List.cons_append]) | refine AL.op rfl (OpOK.call rfl rfl rfl rfl c1 rfl) ?_ | refine AL.op rfl (OpOK.call rfl rfl rfl rfl c2 rfl) ?_ | refine AL.op rfl (OpOK.call rfl rfl rfl rfl (index_c n.kids h hk) rfl) ?_ | refine AL.nil ?_ | (refine AL.gsplitE rfl rfl rfl (fun hc => ?_) (fun hc => ?_) <;> (fail_if_success (exact absurd hc (by decide))) <;> (try simp only [hsx] at hc) <;> (try first | (exfalso; omega) | contradiction | (exfalso; simp [dec_eq] at hc; done))) | (refine AL.op rfl (OpOK.ari64 rfl rfl rfl rfl rfl (by omega) (by omega)) ?_) | (refine AL.op rfl (OpOK.index_map tabs rfl rfl rfl rfl rfl rfl rfl (fun _ => rfl) (by decide) (by omega) (by omega)) ?_)) | refine AW.seq ?_ | refine AW.region ?_ | refine Then.norm ?_ | refine AW.skip ?_ | refine AW.condT rfl ?_ | refine AW.condF rfl ?_ | (refine AW.cond rfl (fun hc => ?_) (fun hc => ?_) <;> (try simp only [hsx] at hc) <;> (try first | (exfalso; omega) | contradiction | (exfalso; simp [dec_eq] at hc; done))) | refine AW.ret ?_ | refine Then.ret ?_))
  all_goals first
    | (rw [if_pos (by omega)]; exact RQ.fin rfl rfl rfl)
    | (rw [if_neg (by omega), if_pos (by omega)]; exact RQ.fin rfl rfl rfl)
    | (rw [if_neg (by omega), if_neg (by omega)]; exact RQ.fin rfl rfl rfl)
    | (trace_state; sorry)
theorem place_c (f : List Node) (h : Int) (hf : Fit f) : PureC Tryz.prog 46 [fav f, iav h] (iav (placeP f h)) := by
  have hl := hf.len
  have c1 := treeAt_c f h hl
  have c2 := treeAt_c f (nodeAt f h).parent hl
  have c3 := index_c (nodeAt f (nodeAt f h).parent).kids h (hf.at _).kids
  refine PureC.mk tabs Tryz.func46 15 [.tmp 4] rfl rfl rfl rfl rfl ?_; intro w0 X
  (repeat' (first | ((with_reducible show AL _ _ _ _ _); first | (refine AL.step tabs rfl ?_; try dsimp only [len, List.nil_append, List.cons_append]) | refine AL.nil ?_) | ((with_reducible show DQ _ _ _ _ _ _); first | refine DQ.stepc (LS.call rfl rfl rfl rfl rfl c1 rfl) rfl rfl rfl rfl rfl ?_ | refine DQ.stepc (LS.call rfl rfl rfl rfl rfl c2 rfl) rfl rfl rfl rfl rfl ?_ | refine DQ.stepc (LS.call rfl rfl rfl rfl rfl c3 rfl) rfl rfl rfl rfl rfl ?_ | refine DQ.stepc (LS.max2 rfl rfl rfl rfl rfl) rfl rfl rfl rfl rfl ?_ | refine DQ.stepc (LS.val tabs rfl rfl rfl) rfl rfl rfl rfl rfl ?_ | refine DQ.stepc (LS.skip rfl rfl) rfl rfl rfl rfl rfl ?_ | refine DQ.nilM (by kernel_rfl) ?_) | refine AW.seq ?_ | refine AW.region ?_ | refine Then.norm ?_ | refine AW.skip ?_ | refine AW.ret ?_ | refine Then.ret ?_ | refine AW.drawW mixed (by kernel_rfl) ?_))
  all_goals first
    | exact RQ.fin rfl rfl rfl
    | (trace_state; sorry)
def u32 (n : Int) : AV := .imm (.int .u32 n)
def spTo (n : Nat) (off cnt : Int) : Int := off + min cnt (n - off)
theorem span_c (l : List Int) (off cnt : Int) (h0 : 0 ≤ off) (h1 : off < 4294967296) (h2 : 0 ≤ cnt) (h3 : cnt < 4294967296) (hl : l.length ≤ 1000000000) : PureC Tryz.prog 81 [.imm (.sl (l.map u16)), u32 off, u32 cnt] (.tup [iav (if off ≤ l.length then off else 0), iav (if off ≤ l.length then spTo l.length off cnt else 0), bav (dec (off ≤ l.length))]) := by
  have hml : (l.map u16).length = l.length := List.length_map _
  refine PureC.mk tabs Tryz.func81 30 [.tmp 6, .tmp 7, .tmp 8] rfl rfl rfl rfl rfl ?_; intro w0 X
  (repeat' (first | ((with_reducible show AL _ _ _ _ _); first | refine AL.op rfl (OpOK.toU64 tabs rfl rfl rfl rfl rfl rfl (by omega) (by omega)) ?_ | refine AL.op rfl (OpOK.toI64 tabs rfl rfl rfl rfl rfl rfl (by omega) (by omega)) ?_ | refine AL.op rfl (OpOK.min2 rfl rfl rfl rfl) ?_ | (refine AL.step tabs rfl ?_; try dsimp only [len, List.nil_append, List.cons_append]) | refine AL.nil ?_ | (refine AL.op rfl (OpOK.ari64 rfl rfl rfl rfl rfl (by omega) (by omega)) ?_)) | refine AW.seq ?_ | refine AW.region ?_ | refine Then.norm ?_ | refine AW.skip ?_ | refine AW.condT rfl ?_ | refine AW.condF rfl ?_ | (refine AW.cond rfl (fun hc => ?_) (fun hc => ?_) <;> (try simp only [hsx] at hc) <;> (try first | (exfalso; omega) | contradiction | (exfalso; simp [dec_eq] at hc; done))) | refine AW.ret ?_ | refine Then.ret ?_))
  · rw [if_neg (by omega), if_neg (by omega), show dec (off ≤ (l.length : Int)) = false by rw [dec_false]; omega]; exact RQ.fin rfl rfl rfl
  · rw [if_pos (by omega), if_pos (by omega), show dec (off ≤ (l.length : Int)) = true by rw [dec_true]; omega]
    unfold spTo
    rw [← hml]
    exact RQ.fin rfl rfl rfl
def subP (l : List Int) (off cnt : Int) : List Int := (l.take (spTo l.length off cnt).toNat).drop off.toNat
theorem sub_c (l : List Int) (off cnt : Int) (h0 : 0 ≤ off) (h1 : off < 4294967296) (h2 : 0 ≤ cnt) (h3 : cnt < 4294967296) (hl : l.length ≤ 1000000000) : PureC Tryz.prog 41 [.imm (.sl (l.map u16)), u32 off, u32 cnt] (.tup [.imm (.sl ((if off ≤ l.length then subP l off cnt else []).map u16)), iav (if off ≤ l.length then 0 else 14)]) := by
  have hml : (l.map u16).length = l.length := List.length_map _
  have c1 := span_c l off cnt h0 h1 h2 h3 hl
  by_cases h : off ≤ l.length
  · rw [if_pos h, if_pos h]
    rw [if_pos h, if_pos h, show dec (off ≤ (l.length : Int)) = true by rw [dec_true]; exact h] at c1
    have hs0 : off ≤ spTo l.length off cnt := by unfold spTo; omega
    have hs1 : spTo l.length off cnt ≤ l.length := by unfold spTo; omega
    have hsl : (subP l off cnt).length ≤ 1000000000 := by unfold subP; simp only [List.length_drop, List.length_take]; omega
    refine PureC.mk tabs Tryz.func41 26 [.tmp 6, .tmp 7] rfl rfl rfl rfl rfl ?_; intro w0 X
    (repeat' (first | ((with_reducible show AL _ _ _ _ _); first | (refine AL.step tabs rfl ?_; try dsimp only [len, List.nil_append, List.cons_append]) | refine AL.op rfl (OpOK.call rfl rfl rfl rfl c1 rfl) ?_ | refine AL.op rfl (OpOK.cut_map (i := ti36) (ie := ti55) (e := 55) (f := u16) (xs := l) (l := off) (h := spTo l.length off cnt) tabs rfl rfl rfl rfl rfl rfl rfl rfl (fun _ => rfl) (by omega) (by omega) (by omega)) ?_ | refine AL.ope rfl (OpOK.append_nil (ie := ti55) tabs rfl rfl rfl rfl rfl (by decide) rfl (SrcA.imm (rows := (subP l off cnt).map u16) tabs rfl rfl rfl (by simp [u16, ti55])) (by simp [ti55]; omega) (by simp; omega)) rfl ?_ | refine AL.nil ?_) | refine AW.seq ?_ | refine AW.region ?_ | refine Then.norm ?_ | refine AW.skip ?_ | refine AW.condT rfl ?_ | refine AW.condF rfl ?_ | (refine AW.cond rfl (fun hc => ?_) (fun hc => ?_) <;> (try simp only [hsx] at hc) <;> (try first | (exfalso; omega) | contradiction | (exfalso; simp [dec_eq] at hc; done))) | refine AW.ret ?_ | refine Then.ret ?_))
    all_goals first
      | exact RQ.ret rfl (Fz.tup (.cons (Fz.os (b := ⟨55, 1, ((subP l off cnt).map u16).map (·.map .imm)⟩) (rows := (subP l off cnt).map u16) rfl rfl rfl) (.cons (Fz.im rfl) .nil)))
      | (trace_state; sorry)
  · rw [if_neg h, if_neg h]
    rw [if_neg h, if_neg h, show dec (off ≤ (l.length : Int)) = false by rw [dec_false]; exact h] at c1
    refine PureC.mk tabs Tryz.func41 26 [.tmp 6, .tmp 7] rfl rfl rfl rfl rfl ?_; intro w0 X
    (repeat' (first | ((with_reducible show AL _ _ _ _ _); first | (refine AL.step tabs rfl ?_; try dsimp only [len, List.nil_append, List.cons_append]) | refine AL.op rfl (OpOK.call rfl rfl rfl rfl c1 rfl) ?_ | refine AL.nil ?_) | refine AW.seq ?_ | refine AW.region ?_ | refine Then.norm ?_ | refine AW.skip ?_ | refine AW.condT rfl ?_ | refine AW.condF rfl ?_ | (refine AW.cond rfl (fun hc => ?_) (fun hc => ?_) <;> (try simp only [hsx] at hc) <;> (try first | (exfalso; omega) | contradiction | (exfalso; simp [dec_eq] at hc; done))) | refine AW.ret ?_ | refine Then.ret ?_))
    all_goals first
      | exact RQ.fin rfl rfl rfl
      | (trace_state; sorry)
end Go.Proofs.YtmhejcnaanocpaaGreat.A
namespace Go.Proofs.YtmhejcnaanocpaaGreat.A
set_option linter.unusedVariables false
set_option linter.unusedSimpArgs false
set_option maxRecDepth 100000
set_option maxHeartbeats 4000000
def replL (l : List Int) (a b : Int) (v : List Int) : List Int := l.take a.toNat ++ v ++ l.drop b.toNat
def replP (l : List Int) (off cnt : Int) (v : List Int) : List Int × Int :=
  if (l.length : Int) < off then ([], 14) else if 16384 < (l.length : Int) - (spTo l.length off cnt - off) + v.length then ([], 4) else (replL l off (spTo l.length off cnt) v, 0)
theorem u16_len (l : List Int) : ∀ r ∈ l.map u16, r.length = ti55.sz := fun r hr => by
  obtain ⟨q, _, rfl⟩ := List.mem_map.1 hr
  rfl
theorem urep_c (l : List Int) (off cnt : Int) (v : List Int) (h0 : 0 ≤ off) (h1 : off < 4294967296) (h2 : 0 ≤ cnt) (h3 : cnt < 4294967296) (hl : l.length ≤ 1000000000) (hv : v.length ≤ 1000000000) : PureC Tryz.prog 84 [.imm (.sl (l.map u16)), u32 off, u32 cnt, .imm (.sl (v.map u16))] (.tup [.imm (.sl ((replP l off cnt v).1.map u16)), iav (replP l off cnt v).2]) := by
  have hml : (l.map u16).length = l.length := List.length_map _
  have hmv : (v.map u16).length = v.length := List.length_map _
  have c1 := span_c l off cnt h0 h1 h2 h3 hl
  by_cases h : off ≤ l.length
  · rw [if_pos h, if_pos h, show dec (off ≤ (l.length : Int)) = true by rw [dec_true]; exact h] at c1
    have hs0 : off ≤ spTo l.length off cnt := by unfold spTo; omega
    have hs1 : spTo l.length off cnt ≤ l.length := by unfold spTo; omega
    unfold replP
    rw [if_neg (by omega)]
    obtain ⟨to, hto⟩ : ∃ to, to = spTo l.length off cnt := ⟨_, rfl⟩
    rw [← hto] at c1 hs0 hs1 ⊢
    refine PureC.mk tabs Tryz.func84 48 [.tmp 8, .tmp 9] rfl rfl rfl rfl rfl ?_; intro w0 X
    (repeat' (first | ((with_reducible show AL _ _ _ _ _); first | (refine AL.step tabs rfl ?_; try dsimp only [len, List.nil_append, List.cons_append]) | refine AL.op rfl (OpOK.call rfl rfl rfl rfl c1 rfl) ?_ | refine AL.ope rfl (OpOK.cut_map (i := ti36) (ie := ti55) (e := 55) (f := u16) (xs := l) (l := 0) (h := off) tabs rfl rfl rfl rfl rfl rfl rfl rfl (fun _ => rfl) (by omega) (by omega) (by omega)) rfl ?_ | refine AL.ope rfl (OpOK.cut_map (i := ti36) (ie := ti55) (e := 55) (f := u16) (xs := l) (l := to) (h := l.length) tabs rfl rfl rfl rfl rfl rfl rfl rfl (fun _ => rfl) (by omega) (by omega) (by omega)) rfl ?_ | refine AL.ope rfl (OpOK.append_nil (ie := ti55) tabs rfl rfl rfl rfl rfl (by decide) rfl (SrcA.imm (rows := ((l.take off.toNat).drop (0 : Int).toNat).map u16) tabs rfl rfl rfl (u16_len _)) (by simp [ti55]; omega) (by simp; omega)) rfl ?_ | refine AL.ope (h1 := [⟨55, 1, (((l.take off.toNat).drop (0 : Int).toNat).map u16).map (·.map .imm) ++ (v.map u16).map (·.map .imm)⟩]) rfl (OpOK.append_os (ie := ti55) (b := ⟨55, 1, (((l.take off.toNat).drop (0 : Int).toNat).map u16).map (·.map .imm)⟩) tabs rfl rfl rfl rfl rfl rfl rfl rfl rfl rfl (SrcA.imm (rows := v.map u16) tabs rfl rfl rfl (u16_len _)) (by simp [ti55]; omega) (by simp; omega)) rfl ?_ | refine AL.ope rfl (OpOK.append_os (ie := ti55) (b := ⟨55, 1, (((l.take off.toNat).drop (0 : Int).toNat).map u16).map (·.map .imm) ++ (v.map u16).map (·.map .imm)⟩) tabs rfl rfl rfl rfl rfl rfl rfl List.length_append.symm rfl rfl (SrcA.imm (rows := ((l.take (l.length : Int).toNat).drop to.toNat).map u16) tabs rfl rfl rfl (u16_len _)) (by simp [ti55]; omega) (by simp; omega)) rfl ?_ | refine AL.nil ?_ | (refine AL.op rfl (OpOK.ari64 rfl rfl rfl rfl rfl (by omega) (by omega)) ?_)) | refine AW.seq ?_ | refine AW.region ?_ | refine Then.norm ?_ | refine AW.skip ?_ | refine AW.block ?_ | refine InB.norm ?_ | refine AW.condT rfl ?_ | refine AW.condF rfl ?_ | (refine AW.cond rfl (fun hc => ?_) (fun hc => ?_) <;> (try simp only [hsx] at hc) <;> (try first | (exfalso; omega) | contradiction | (exfalso; simp [dec_eq] at hc; done))) | refine AW.ret ?_ | refine AW.exit ?_ | refine Then.ret ?_ | refine Then.exit ?_ | refine InB.ret ?_ | refine InB.here ?_ | refine InB.off rfl ?_))
    all_goals first
      | (rw [if_pos (by omega)]; exact RQ.fin rfl rfl rfl)
      | (rw [if_neg (by omega)]; exact RQ.ret rfl (Fz.tup (.cons (Fz.os (rows := (replL l off to v).map u16) rfl (by simp [replL]; omega) (by simp [replL])) (.cons (Fz.im rfl) .nil))))
      | (trace_state; sorry)
  · rw [if_neg h, if_neg h, show dec (off ≤ (l.length : Int)) = false by rw [dec_false]; exact h] at c1
    rw [show replP l off cnt v = ([], 14) by unfold replP; rw [if_pos (by omega)]]
    refine PureC.mk tabs Tryz.func84 48 [.tmp 8, .tmp 9] rfl rfl rfl rfl rfl ?_; intro w0 X
    (repeat' (first | ((with_reducible show AL _ _ _ _ _); first | (refine AL.step tabs rfl ?_; try dsimp only [len, List.nil_append, List.cons_append]) | refine AL.op rfl (OpOK.call rfl rfl rfl rfl c1 rfl) ?_ | refine AL.nil ?_ | (refine AL.op rfl (OpOK.ari64 rfl rfl rfl rfl rfl (by omega) (by omega)) ?_)) | refine AW.seq ?_ | refine AW.region ?_ | refine Then.norm ?_ | refine AW.skip ?_ | refine AW.block ?_ | refine InB.norm ?_ | refine AW.condT rfl ?_ | refine AW.condF rfl ?_ | (refine AW.cond rfl (fun hc => ?_) (fun hc => ?_) <;> (try simp only [hsx] at hc) <;> (try first | (exfalso; omega) | contradiction | (exfalso; simp [dec_eq] at hc; done))) | refine AW.ret ?_ | refine AW.exit ?_ | refine Then.ret ?_ | refine Then.exit ?_ | refine InB.ret ?_ | refine InB.here ?_ | refine InB.off rfl ?_))
    all_goals first
      | exact RQ.fin rfl rfl rfl
      | (trace_state; sorry)
/-- why a node's data cannot be asked. -/
noncomputable def cfP (f : List Node) (h : Int) (b : Bool) : Int := if faultR f [h] ≠ 0 then faultR f [h] else if dec (dataB (nodeAt f h).kind) = false ∨ b = true ∧ dec (textB (nodeAt f h).kind) = false then 23 else 0
theorem cfault_c (f : List Node) (h : Int) (b : Bool) (hf : Fit f) : PureC Tryz.prog 39 [fav f, iav h, bav b] (iav (cfP f h b)) := by
  have hl := hf.len
  have c1 := fault_c f [h] hf (by simp)
  have c2 := treeAt_c f h hl
  obtain ⟨n, hn⟩ : ∃ n, n = nodeAt f h := ⟨_, rfl⟩
  obtain ⟨e, he⟩ : ∃ e, e = faultR f [h] := ⟨_, rfl⟩
  unfold cfP
  rw [← hn, ← he] 
  rw [← hn] at c2
  rw [← he] at c1
  have c3 := data_c n.kind
  have c4 := text_c n.kind
  obtain ⟨p, hp⟩ : ∃ p, p = dec (dataB n.kind) := ⟨_, rfl⟩
  obtain ⟨q, hq⟩ : ∃ q, q = dec (textB n.kind) := ⟨_, rfl⟩
  rw [← hp] at c3 ⊢
  rw [← hq] at c4 ⊢
  refine PureC.mk tabs Tryz.func39 31 [.tmp 6] rfl rfl rfl rfl rfl ?_; intro w0 X
  (repeat' (first | ((with_reducible show AL _ _ _ _ _); first | (refine AL.step tabs rfl ?_; try dsimp only [len, List.nil_append, List.cons_append]) | refine AL.op rfl (OpOK.callfz rfl rfl rfl rfl c1 rfl rfl) ?_ | refine AL.op rfl (OpOK.call rfl rfl rfl rfl c2 rfl) ?_ | refine AL.op rfl (OpOK.call rfl rfl rfl rfl c3 rfl) ?_ | refine AL.op rfl (OpOK.call rfl rfl rfl rfl c4 rfl) ?_ | refine AL.nil ?_ | (refine AL.gsplitE rfl rfl rfl (fun hc => ?_) (fun hc => ?_) <;> (fail_if_success (exact absurd hc (by decide))) <;> (try simp only [hsx] at hc) <;> (try first | (exfalso; omega) | contradiction | (exfalso; simp [dec_eq] at hc; done)))) | refine AW.seq ?_ | refine AW.region ?_ | refine Then.norm ?_ | refine AW.skip ?_ | refine AW.condT rfl ?_ | refine AW.condF rfl ?_ | (refine AW.cond rfl (fun hc => ?_) (fun hc => ?_) <;> (try simp only [hsx] at hc) <;> (try first | (exfalso; omega) | contradiction | (exfalso; simp [dec_eq] at hc; done))) | refine AW.ret ?_ | refine Then.ret ?_))
  · rw [if_pos (by assumption)]; exact RQ.fin rfl rfl rfl
  · have h1 : e = 0 := by assumption
    have h2 : p = false := by assumption
    rw [if_neg (by omega), if_pos (by simp [h2])]; exact RQ.fin rfl rfl rfl
  · have h1 : e = 0 := by assumption
    have h2 : p = true := by assumption
    have h3 : b = true := by assumption
    have h4 : q = false := by assumption
    rw [if_neg (by omega), if_pos (by simp [h2, h3, h4])]; exact RQ.fin rfl rfl rfl
  · have h1 : e = 0 := by assumption
    have h2 : p = true := by assumption
    have h3 : b = true := by assumption
    have h4 : q = true := by assumption
    rw [if_neg (by omega), if_neg (by simp [h2, h3, h4])]; exact RQ.fin rfl rfl rfl
  · have h1 : e = 0 := by assumption
    have h2 : p = true := by assumption
    have h3 : b = false := by assumption
    rw [if_neg (by omega), if_neg (by simp [h2, h3])]; exact RQ.fin rfl rfl rfl
end Go.Proofs.YtmhejcnaanocpaaGreat.A
namespace Go.Proofs.YtmhejcnaanocpaaGreat.A
set_option linter.unusedVariables false
set_option linter.unusedSimpArgs false
set_option maxRecDepth 100000
set_option maxHeartbeats 4000000
theorem AW.retW {C : Cx} {Q : Exit → St → Prop} {s s1 : St} (hle : Le C s s1) {e1 : List (Nat × AV)} {h1 : List Blk} (he : s1 = ⟨e1, h1⟩) (h : AW C .ret Q ⟨e1, h1⟩) : AW C .ret Q s := by
  subst he
  exact AW.weak hle h
/-- the pen as it is lent: its blocks. -/
def penB (p : PS) : List Blk := [⟨112, 3, [[.imm (.sl (p.F.map Node.iv)), .os 1 p.L.length, iav p.why]]⟩, ⟨58, 36, p.L.map rowC⟩]
def pen0 (f : List Node) : PS := ⟨f, [], 0⟩
theorem on_c (f : List Node) : GenC Tryz.prog 42 [⟨112, 3, []⟩] [fav f] (.ptr 0 1 0 0) [⟨112, 3, [[.imm (.sl (f.map Node.iv)), .os 2 0, iav 0]]⟩, ⟨24, 1, [[.imm (.sl (f.map Node.iv))]]⟩, ⟨58, 36, []⟩] := by
  refine GenC.mk tabs Tryz.func42 6 [.tmp 2] rfl rfl rfl rfl rfl ?_; intro w0 X γ κ
  (repeat' (first | ((with_reducible show AL _ _ _ _ _); first | refine AL.ope rfl (OpOK.boxAt 0 (t := 112) rfl rfl rfl rfl rfl rfl) rfl ?_ | (refine AL.step tabs rfl ?_; try dsimp only [len, List.nil_append, List.cons_append]) | refine AL.nil ?_) | refine AW.retW (h1 := [⟨112, 3, [[.imm (.sl (f.map Node.iv)), .os 2 0, iav 0]]⟩, ⟨24, 1, [[.imm (.sl (f.map Node.iv))]]⟩, ⟨58, 36, []⟩]) (Le.freshCell 0 1 58 36 (ty := 112) (sz := 3) (r := [.imm (.sl (f.map Node.iv)), .nils, iav 0]) rfl rfl rfl) rfl ?_ | refine AW.seq ?_ | refine AW.region ?_ | refine Then.norm ?_ | refine AW.skip ?_ | refine AW.ret ?_ | refine Then.ret ?_))
  exact RG.ret 3 rfl rfl rfl rfl rfl (by simp [cxG])
def refP (p : PS) (w : Int) : PS := ⟨p.F, p.L, if p.why = 0 then w else p.why⟩
theorem refuse_c (p : PS) (w : Int) : GenC Tryz.prog 85 (penB p) [.ptr 0 1 0 0, iav w] (bav false) (penB (refP p w)) := by
  unfold penB refP
  refine GenC.mk tabs Tryz.func85 14 [.tmp 4] rfl rfl rfl rfl rfl ?_; intro w0 X γ κ
  (repeat' (first | ((with_reducible show AL _ _ _ _ _); first | (refine AL.step tabs rfl ?_; try dsimp only [len, List.nil_append, List.cons_append]) | refine AL.nil ?_) | ((with_reducible show DQ _ _ _ _ _ _); first | refine DQ.stepc (LS.store (i := ti28) (v := iav w) (ty := 112) (sz := 3) (rows := [[.imm (.sl (p.F.map Node.iv)), .os 1 p.L.length, iav p.why]]) (r := [.imm (.sl (p.F.map Node.iv)), .os 1 p.L.length, iav p.why]) tabs rfl rfl rfl rfl rfl rfl rfl rfl rfl rfl (Nat.le_of_ble_eq_true rfl) rfl) rfl rfl rfl rfl rfl ?_ | refine DQ.stepc (LS.val tabs rfl rfl rfl) rfl rfl rfl rfl rfl ?_ | refine DQ.stepc (LS.skip rfl rfl) rfl rfl rfl rfl rfl ?_ | refine DQ.nilM (by kernel_rfl) ?_) | refine AW.seq ?_ | refine AW.region ?_ | refine Then.norm ?_ | refine AW.skip ?_ | refine AW.condT rfl ?_ | refine AW.condF rfl ?_ | (refine AW.cond rfl (fun hc => ?_) (fun hc => ?_) <;> (try simp only [hsx] at hc) <;> (try first | (exfalso; omega) | contradiction | (exfalso; simp [dec_eq] at hc; done))) | refine AW.ret ?_ | refine Then.ret ?_ | refine AW.drawW mixed (by kernel_rfl) ?_))
  · rw [if_pos hc]
    exact RG.ret 2 rfl rfl rfl rfl (by simp only [List.all_cons, List.all_nil, Bool.and_true, Bool.and_eq_true]; exact ⟨⟨rfl, rfl, rfl⟩, rowC_sc _ _⟩) (by simp [cxG])
  · rw [if_neg hc]
    exact RG.ret 2 rfl rfl rfl rfl (by simp only [List.all_cons, List.all_nil, Bool.and_true, Bool.and_eq_true]; exact ⟨⟨rfl, rfl, rfl⟩, rowC_sc _ _⟩) (by simp [cxG])
/-- what chardata.Put does. -/
noncomputable def putC (f : List Node) (h off cnt : Int) (v : List Int) : Change := { c0 with kind := 5, node := h, offset := off, count := ((nodeAt f h).data.length : Int) + v.length - (replP (nodeAt f h).data off cnt v).1.length, data := v }
/-- a refusal, or the change done. -/
inductive PutR (h off cnt : Int) (v : List Int) : PS → PS → Bool → Prop
  | no (p : PS) (e : (replP (nodeAt p.F h).data off cnt v).2 ≠ 0) : PutR h off cnt v p (refP p (replP (nodeAt p.F h).data off cnt v).2) false
  | yes (p q : PS) (b : Bool) (e : (replP (nodeAt p.F h).data off cnt v).2 = 0) (H : DoR p (putC p.F h off cnt v) q b) : PutR h off cnt v p q b
def rawDa (node off cnt : Int) (v : List Int) : AV := .agg [kav 5, iav node, iav 0, iav 0, iav 0, iav 0, iav off, iav cnt, .imm (.sl (v.map u16)), sav es, sav es, sav es, sav es, sav es, bav false, bav false, kav 0, sav es, sav es, sav es, sav es, sav es, .nils, .nils, iav 0, .nils, iav 0, iav 0, iav 0, kav 0, bav false, bav false, .nils, .nils, iav 0, iav 0]
theorem put0_c (p q : PS) (h off cnt : Int) (v : List Int) (b : Bool) (hf : Fit p.F) (hL : p.L.length ≤ 1000000) (h0 : 0 ≤ off) (h1 : off < 4294967296) (h2 : 0 ≤ cnt) (h3 : cnt < 4294967296) (hv : v.length ≤ 1000000000) (H : PutR h off cnt v p q b) :
    GenC Tryz.prog 47 (penB p) [.ptr 0 1 0 0, iav h, u32 off, u32 cnt, .imm (.sl (v.map u16))] (bav b) (penB q) := by
  have hl := hf.len
  have c1 := treeAt_c p.F h hl
  have hdl := (hf.at h).data
  have c2 := urep_c (nodeAt p.F h).data off cnt v h0 h1 h2 h3 hdl hv
  obtain ⟨n, hn⟩ : ∃ n, n = nodeAt p.F h := ⟨_, rfl⟩
  obtain ⟨r, hr⟩ : ∃ r, r = replP (nodeAt p.F h).data off cnt v := ⟨_, rfl⟩
  rw [← hr] at c2
  have hrl : r.1.length ≤ 2000000000 := by
    rw [hr]; unfold replP replL; split
    · simp
    · split
      · simp
      · simp only [List.length_append, List.length_take, List.length_drop]; omega
  have hmr : (r.1.map u16).length = r.1.length := List.length_map _
  have hmv : (v.map u16).length = v.length := List.length_map _
  have hmn : (n.data.map u16).length = n.data.length := List.length_map _
  rw [← hn] at c1 c2 hdl hr
  cases H with
  | no e =>
    rw [← hn, ← hr] at e ⊢
    have c3 := refuse_c p r.2
    unfold penB at c3 ⊢
    refine GenC.mk tabs Tryz.func47 51 [.tmp 10] rfl rfl rfl rfl rfl ?_; intro w0 X γ κ
    (repeat' (first | ((with_reducible show AL _ _ _ _ _); first | (refine AL.step tabs rfl ?_; try dsimp only [len, List.nil_append, List.cons_append]) | refine AL.op rfl (OpOK.call rfl rfl rfl rfl c1 rfl) ?_ | refine AL.op rfl (OpOK.call rfl rfl rfl rfl c2 rfl) ?_ | refine AL.callG [0, 1] 2 rfl rfl rfl rfl rfl (caps := []) rfl c3 rfl (by simp only [List.map_cons, List.map_nil, renC]; rfl) rfl rfl (by simp only [List.all_cons, List.all_nil, Bool.and_true, Bool.and_eq_true]; exact ⟨⟨rfl, rfl, rfl⟩, rowC_sc _ _⟩) rfl (by simp only [List.all_cons, List.all_nil, Bool.and_true, Bool.and_eq_true]; exact ⟨⟨rfl, rfl, rfl⟩, rowC_sc _ _⟩) rfl (hpA := [⟨112, 3, [[.imm (.sl ((refP p r.2).F.map Node.iv)), .os 1 (refP p r.2).L.length, iav (refP p r.2).why]]⟩, ⟨58, 36, (refP p r.2).L.map rowC⟩]) (by simp only [List.map_cons, List.map_nil, renC]; rfl) (r' := bav false) rfl rfl ?_; try dsimp only [setAll, List.drop_succ_cons, List.drop_zero, List.drop_nil, List.set_cons_succ, List.set_cons_zero, List.cons_append, List.nil_append, List.append_nil, len, Nat.reduceAdd] | refine AL.nil ?_ | (refine AL.op rfl (OpOK.ari64 rfl rfl rfl rfl rfl (by omega) (by omega)) ?_)) | refine AW.seq ?_ | refine AW.region ?_ | refine Then.norm ?_ | refine AW.skip ?_ | refine AW.condT rfl ?_ | refine AW.condF rfl ?_ | (refine AW.cond rfl (fun hc => ?_) (fun hc => ?_) <;> (try simp only [hsx] at hc) <;> (try first | (exfalso; omega) | contradiction | (exfalso; simp [dec_eq] at hc; done))) | refine AW.ret ?_ | refine Then.ret ?_))
    all_goals first
      | (exfalso; exact e hc)
      | exact RG.ret 2 rfl rfl rfl rfl (by simp only [List.all_cons, List.all_nil, Bool.and_true, Bool.and_eq_true]; exact ⟨⟨rfl, rfl, rfl⟩, rowC_sc _ _⟩) (by simp [cxG])
  | yes _ _ e H =>
    rw [← hn, ← hr] at e
    have hdo : GenC Tryz.prog 45 _ [.ptr 0 1 0 0, rawDa h off ((nodeAt p.F h).data.length + v.length - (replP (nodeAt p.F h).data off cnt v).1.length) v] _ _ := GenC.cv (do_c p q _ b hL H) rfl
    rw [← hn, ← hr, ← hmn, ← hmv, ← hmr] at hdo
    unfold penB
    refine GenC.mk tabs Tryz.func47 51 [.tmp 10] rfl rfl rfl rfl rfl ?_; intro w0 X γ κ
    (repeat' (first | ((with_reducible show AL _ _ _ _ _); first | refine AL.op rfl (OpOK.toI64 tabs rfl rfl rfl rfl rfl rfl (by omega) (by omega)) ?_ | (refine AL.step tabs rfl ?_; try dsimp only [len, List.nil_append, List.cons_append]) | refine AL.op rfl (OpOK.call rfl rfl rfl rfl c1 rfl) ?_ | refine AL.op rfl (OpOK.call rfl rfl rfl rfl c2 rfl) ?_ | refine AL.callG [0, 1] 2 rfl rfl rfl rfl rfl (caps := []) rfl hdo rfl (by simp only [List.map_cons, List.map_nil, renC]; rfl) rfl rfl (by simp only [List.all_cons, List.all_nil, Bool.and_true, Bool.and_eq_true]; exact ⟨⟨rfl, rfl, rfl⟩, rowC_sc _ _⟩) rfl (by simp only [List.all_cons, List.all_nil, Bool.and_true, Bool.and_eq_true]; exact ⟨⟨rfl, rfl, rfl⟩, rowC_sc _ _⟩) rfl (hpA := [⟨112, 3, [[.imm (.sl ((q).F.map Node.iv)), .os 1 (q).L.length, iav (q).why]]⟩, ⟨58, 36, (q).L.map rowC⟩]) (by simp only [List.map_cons, List.map_nil, renC]; rfl) (r' := bav b) rfl rfl ?_; try dsimp only [setAll, List.drop_succ_cons, List.drop_zero, List.drop_nil, List.set_cons_succ, List.set_cons_zero, List.cons_append, List.nil_append, List.append_nil, len, Nat.reduceAdd] | refine AL.nil ?_ | (refine AL.op rfl (OpOK.ari64 rfl rfl rfl rfl rfl (by omega) (by omega)) ?_)) | refine AW.seq ?_ | refine AW.region ?_ | refine Then.norm ?_ | refine AW.skip ?_ | refine AW.condT rfl ?_ | refine AW.condF rfl ?_ | (refine AW.cond rfl (fun hc => ?_) (fun hc => ?_) <;> (try simp only [hsx] at hc) <;> (try first | (exfalso; omega) | contradiction | (exfalso; simp [dec_eq] at hc; done))) | refine AW.ret ?_ | refine Then.ret ?_))
    all_goals first
      | (exfalso; exact hc e)
      | exact RG.ret 2 rfl rfl rfl rfl (by simp only [List.all_cons, List.all_nil, Bool.and_true, Bool.and_eq_true]; exact ⟨⟨rfl, rfl, rfl⟩, rowC_sc _ _⟩) (by simp [cxG])
end Go.Proofs.YtmhejcnaanocpaaGreat.A
namespace Go.Proofs.YtmhejcnaanocpaaGreat.A
set_option linter.unusedVariables false
set_option linter.unusedSimpArgs false
set_option maxRecDepth 100000
set_option maxHeartbeats 4000000
theorem cl62_c (a b n : Int) : GenC Tryz.prog 62 [⟨25, 1, [[u32 a]]⟩, ⟨25, 1, [[u32 b]]⟩] [u32 n, .ptr 0 1 0 0, .ptr 1 1 0 0] (.tup [u32 a, u32 b]) [⟨25, 1, [[u32 a]]⟩, ⟨25, 1, [[u32 b]]⟩] := by
  refine GenC.mk tabs Tryz.func62 8 [.tmp 4, .tmp 5] rfl rfl rfl rfl rfl ?_; intro w0 X γ κ
  (repeat' (first | ((with_reducible show AL _ _ _ _ _); first | (refine AL.step tabs rfl ?_; try dsimp only [len, List.nil_append, List.cons_append]) | refine AL.nil ?_) | ((with_reducible show DQ _ _ _ _ _ _); first | refine DQ.stepc (LS.val tabs rfl rfl rfl) rfl rfl rfl rfl rfl ?_ | refine DQ.stepc (LS.skip rfl rfl) rfl rfl rfl rfl rfl ?_ | refine DQ.nilM (by kernel_rfl) ?_) | refine AW.seq ?_ | refine AW.region ?_ | refine Then.norm ?_ | refine AW.skip ?_ | refine AW.ret ?_ | refine Then.ret ?_ | refine AW.drawW mixed (by kernel_rfl) ?_))
  exact RG.ret 2 rfl rfl rfl rfl rfl (by simp [cxG])
theorem put62no_c (f : List Node) (h : Int) (v : List Int) (a b : Int) (hf : Fit f) (he : cfP f h false ≠ 0) : GenC Tryz.prog 61 [⟨25, 1, [[u32 a]]⟩, ⟨25, 1, [[u32 b]]⟩] [fav f, iav h, .imm (.sl (v.map u16)), .fn 62 [.ptr 0 1 0 0, .ptr 1 1 0 0]] (.tup [.agg [.nils], .nils, iav (cfP f h false)]) [⟨25, 1, [[u32 a]]⟩, ⟨25, 1, [[u32 b]]⟩] := by
  have c1 := cfault_c f h false hf
  obtain ⟨w, hw⟩ : ∃ w, w = cfP f h false := ⟨_, rfl⟩
  rw [← hw] at c1 he ⊢
  refine GenC.mk tabs Tryz.func61 46 [.cell 8 24, .tmp 9, .tmp 10] rfl rfl rfl rfl rfl ?_; intro w0 X γ κ
  (repeat' (first | ((with_reducible show AL _ _ _ _ _); first | (refine AL.step tabs rfl ?_; try dsimp only [len, List.nil_append, List.cons_append]) | refine AL.op rfl (OpOK.call rfl rfl rfl rfl c1 rfl) ?_ | refine AL.nil ?_) | ((with_reducible show DQ _ _ _ _ _ _); first | refine DQ.stepc (LS.store (i := ti24) (v := .agg [.nils]) (ty := 24) (sz := 1) (rows := [ti24.zero]) (r := ti24.zero) tabs rfl rfl rfl rfl rfl rfl rfl rfl rfl rfl (Nat.le_of_ble_eq_true rfl) rfl) rfl rfl rfl rfl rfl ?_ | refine DQ.stepc (LS.val tabs rfl rfl rfl) rfl rfl rfl rfl rfl ?_ | refine DQ.stepc (LS.skip rfl rfl) rfl rfl rfl rfl rfl ?_ | refine DQ.nilM (by kernel_rfl) ?_) | refine AW.seq ?_ | refine AW.region ?_ | refine Then.norm ?_ | refine AW.skip ?_ | refine AW.condT rfl ?_ | refine AW.condF rfl ?_ | (refine AW.cond rfl (fun hc => ?_) (fun hc => ?_) <;> (try simp only [hsx] at hc) <;> (try first | (exfalso; omega) | contradiction | (exfalso; simp [dec_eq] at hc; done))) | refine AW.ret ?_ | refine Then.ret ?_ | refine AW.drawW mixed (by kernel_rfl) ?_))
  all_goals first
    | (exfalso; exact he hc)
    | exact RG.ret 2 rfl rfl rfl rfl rfl (by simp [cxG])
theorem put62err_c (f : List Node) (q : PS) (bb : Bool) (h : Int) (v : List Int) (a b : Int) (hf : Fit f) (a0 : 0 ≤ a) (a1 : a < 4294967296) (b0 : 0 ≤ b) (b1 : b < 4294967296) (hv : v.length ≤ 1000000000) (he : cfP f h false = 0) (H : PutR h a b v (pen0 f) q bb) (hw : q.why ≠ 0) : GenC Tryz.prog 61 [⟨25, 1, [[u32 a]]⟩, ⟨25, 1, [[u32 b]]⟩] [fav f, iav h, .imm (.sl (v.map u16)), .fn 62 [.ptr 0 1 0 0, .ptr 1 1 0 0]] (.tup [.agg [.nils], .nils, iav q.why]) [⟨25, 1, [[u32 a]]⟩, ⟨25, 1, [[u32 b]]⟩] := by
  have c1 := cfault_c f h false hf
  rw [he] at c1
  have hl := hf.len
  have hdl := (hf.at h).data
  have c2 := treeAt_c f h hl
  have hmn : ((nodeAt f h).data.map u16).length = (nodeAt f h).data.length := List.length_map _
  have c3 := put0_c (pen0 f) q h a b v bb hf (by simp [pen0]) a0 a1 b0 b1 hv H
  have c4 := end0_c q hw
  obtain ⟨n, hn⟩ : ∃ n, n = nodeAt f h := ⟨_, rfl⟩
  rw [← hn] at c2 hdl hmn
  unfold penB pen0 at c3
  refine GenC.mk tabs Tryz.func61 46 [.cell 8 24, .tmp 9, .tmp 10] rfl rfl rfl rfl rfl ?_; intro w0 X γ κ
  refine AW.reserve 112 3 rfl ?_
  (repeat' (first | ((with_reducible show AL _ _ _ _ _); first | refine AL.op rfl (OpOK.toU32 tabs rfl rfl rfl rfl rfl rfl (by omega) (by omega)) ?_ | (refine AL.step tabs rfl ?_; try dsimp only [len, List.nil_append, List.cons_append]) | refine AL.op rfl (OpOK.call rfl rfl rfl rfl c1 rfl) ?_ | refine AL.callG [2] 5 rfl rfl rfl rfl rfl (caps := []) rfl (on_c f) rfl rfl rfl rfl rfl rfl rfl rfl (hpA := [⟨112, 3, [[.imm (.sl (f.map Node.iv)), .os 6 0, iav 0]]⟩, ⟨24, 1, [[.imm (.sl (f.map Node.iv))]]⟩, ⟨58, 36, []⟩]) rfl (r' := .ptr 2 1 0 0) rfl rfl ?_; try dsimp only [setAll, List.drop_succ_cons, List.drop_zero, List.drop_nil, List.set_cons_succ, List.set_cons_zero, List.cons_append, List.nil_append, List.append_nil, len] | refine AL.op rfl (OpOK.call rfl rfl rfl rfl c2 rfl) ?_ | refine AL.callG [0, 1] 7 rfl rfl rfl rfl (caps := [.ptr 0 1 0 0, .ptr 1 1 0 0]) rfl rfl (cl62_c a b _) rfl rfl rfl rfl rfl rfl rfl rfl (hpA := [⟨25, 1, [[u32 a]]⟩, ⟨25, 1, [[u32 b]]⟩]) rfl (r' := .tup [u32 a, u32 b]) rfl rfl ?_ | refine AL.callG [2, 6] 7 rfl rfl rfl rfl rfl (caps := []) rfl c3 rfl (by simp only [List.map_cons, List.map_nil, renC]; rfl) rfl rfl (by simp only [List.all_cons, List.all_nil, Bool.and_true, Bool.and_eq_true]; exact ⟨⟨rfl, rfl, rfl⟩, rowC_sc _ _⟩) rfl (by simp only [List.all_cons, List.all_nil, Bool.and_true, Bool.and_eq_true]; exact ⟨⟨rfl, rfl, rfl⟩, rowC_sc _ _⟩) rfl (hpA := [⟨112, 3, [[.imm (.sl ((q).F.map Node.iv)), .os 6 (q).L.length, iav (q).why]]⟩, ⟨58, 36, (q).L.map rowC⟩]) (by simp only [List.map_cons, List.map_nil, renC]; rfl) (r' := bav bb) rfl rfl ?_; try dsimp only [setAll, List.drop_succ_cons, List.drop_zero, List.drop_nil, List.set_cons_succ, List.set_cons_zero, List.cons_append, List.nil_append, List.append_nil, len, Nat.reduceAdd] | refine AL.callG [2, 6] 7 rfl rfl rfl rfl rfl (caps := []) rfl c4 rfl (by simp only [List.map_cons, List.map_nil, renC]; rfl) rfl rfl (by simp only [List.all_cons, List.all_nil, Bool.and_true, Bool.and_eq_true]; exact ⟨⟨rfl, rfl, rfl⟩, rowC_sc _ _⟩) rfl (by simp only [List.all_cons, List.all_nil, Bool.and_true, Bool.and_eq_true]; exact ⟨⟨rfl, rfl, rfl⟩, rowC_sc _ _⟩) rfl (hpA := [⟨112, 3, [[.imm (.sl ((q).F.map Node.iv)), .os 6 (q).L.length, iav (q).why]]⟩, ⟨58, 36, (q).L.map rowC⟩]) (by simp only [List.map_cons, List.map_nil, renC]; rfl) (r' := .tup [.agg [.nils], .nils, iav q.why]) rfl rfl ?_; try dsimp only [setAll, List.drop_succ_cons, List.drop_zero, List.drop_nil, List.set_cons_succ, List.set_cons_zero, List.cons_append, List.nil_append, List.append_nil, len, Nat.reduceAdd] | refine AL.nil ?_) | ((with_reducible show DQ _ _ _ _ _ _); first | refine DQ.stepc (LS.store (i := ti24) (v := .agg [.nils]) (ty := 24) (sz := 1) (rows := [ti24.zero]) (r := ti24.zero) tabs rfl rfl rfl rfl rfl rfl rfl rfl rfl rfl (Nat.le_of_ble_eq_true rfl) rfl) rfl rfl rfl rfl rfl ?_ | refine DQ.stepc (LS.val tabs rfl rfl rfl) rfl rfl rfl rfl rfl ?_ | refine DQ.stepc (LS.skip rfl rfl) rfl rfl rfl rfl rfl ?_ | refine DQ.nilM (by kernel_rfl) ?_) | refine AW.seq ?_ | refine AW.region ?_ | refine Then.norm ?_ | refine AW.skip ?_ | refine AW.condT rfl ?_ | refine AW.condF rfl ?_ | (refine AW.cond rfl (fun hc => ?_) (fun hc => ?_) <;> (try simp only [hsx] at hc) <;> (try first | (exfalso; omega) | contradiction | (exfalso; simp [dec_eq] at hc; done))) | refine AW.ret ?_ | refine Then.ret ?_ | refine AW.drawW mixed (by kernel_rfl) ?_))
  exact RG.ret 2 rfl rfl rfl rfl rfl (by simp [cxG])
theorem put62_c (f : List Node) (q : PS) (bb : Bool) (h : Int) (v : List Int) (a b : Int) (hf : Fit f) (a0 : 0 ≤ a) (a1 : a < 4294967296) (b0 : 0 ≤ b) (b1 : b < 4294967296) (hv : v.length ≤ 1000000000) (he : cfP f h false = 0) (H : PutR h a b v (pen0 f) q bb) (hw : q.why = 0) (hL : q.L.length ≤ 1000000) (hL0 : q.L ≠ []) (hfc : ∀ i : Int, 0 ≤ i → i < q.L.length → FitC (atI q.L i)) : GenC Tryz.prog 61 [⟨25, 1, [[u32 a]]⟩, ⟨25, 1, [[u32 b]]⟩] [fav f, iav h, .imm (.sl (v.map u16)), .fn 62 [.ptr 0 1 0 0, .ptr 1 1 0 0]] (.tup [fav q.F, .os 8 q.L.length, iav 0]) [⟨25, 1, [[u32 a]]⟩, ⟨25, 1, [[u32 b]]⟩, ⟨112, 3, [[.imm (.sl ((q).F.map Node.iv)), .os 6 (q).L.length, iav (q).why]]⟩, ⟨24, 1, [[.imm (.sl (f.map Node.iv))]]⟩, ⟨24, 1, [[.imm (.sl ((q).F.map Node.iv))]]⟩, ⟨24, 1, [[.imm (.sl (f.map Node.iv))]]⟩, ⟨58, 36, (q).L.map rowC⟩, ⟨24, 1, [[.imm (.sl ((q).F.map Node.iv))]]⟩, ⟨58, 36, (q).L.map rowC⟩] := by
  have c1 := cfault_c f h false hf
  rw [he] at c1
  have hl := hf.len
  have hdl := (hf.at h).data
  have c2 := treeAt_c f h hl
  have hmn : ((nodeAt f h).data.map u16).length = (nodeAt f h).data.length := List.length_map _
  have c3 := put0_c (pen0 f) q h a b v bb hf (by simp [pen0]) a0 a1 b0 b1 hv H
  have c4 := end_c q hw hL hL0 hfc
  obtain ⟨n, hn⟩ : ∃ n, n = nodeAt f h := ⟨_, rfl⟩
  rw [← hn] at c2 hdl hmn
  unfold penB pen0 at c3
  refine GenC.mk tabs Tryz.func61 46 [.cell 8 24, .tmp 9, .tmp 10] rfl rfl rfl rfl rfl ?_; intro w0 X γ κ
  refine AW.reserve 112 3 rfl ?_
  (repeat' (first | ((with_reducible show AL _ _ _ _ _); first | refine AL.op rfl (OpOK.toU32 tabs rfl rfl rfl rfl rfl rfl (by omega) (by omega)) ?_ | (refine AL.step tabs rfl ?_; try dsimp only [len, List.nil_append, List.cons_append]) | refine AL.op rfl (OpOK.call rfl rfl rfl rfl c1 rfl) ?_ | refine AL.callG [2] 5 rfl rfl rfl rfl rfl (caps := []) rfl (on_c f) rfl rfl rfl rfl rfl rfl rfl rfl (hpA := [⟨112, 3, [[.imm (.sl (f.map Node.iv)), .os 6 0, iav 0]]⟩, ⟨24, 1, [[.imm (.sl (f.map Node.iv))]]⟩, ⟨58, 36, []⟩]) rfl (r' := .ptr 2 1 0 0) rfl rfl ?_; try dsimp only [setAll, List.drop_succ_cons, List.drop_zero, List.drop_nil, List.set_cons_succ, List.set_cons_zero, List.cons_append, List.nil_append, List.append_nil, len] | refine AL.op rfl (OpOK.call rfl rfl rfl rfl c2 rfl) ?_ | refine AL.callG [0, 1] 7 rfl rfl rfl rfl (caps := [.ptr 0 1 0 0, .ptr 1 1 0 0]) rfl rfl (cl62_c a b _) rfl rfl rfl rfl rfl rfl rfl rfl (hpA := [⟨25, 1, [[u32 a]]⟩, ⟨25, 1, [[u32 b]]⟩]) rfl (r' := .tup [u32 a, u32 b]) rfl rfl ?_ | refine AL.callG [2, 6] 7 rfl rfl rfl rfl rfl (caps := []) rfl c3 rfl (by simp only [List.map_cons, List.map_nil, renC]; rfl) rfl rfl (by simp only [List.all_cons, List.all_nil, Bool.and_true, Bool.and_eq_true]; exact ⟨⟨rfl, rfl, rfl⟩, rowC_sc _ _⟩) rfl (by simp only [List.all_cons, List.all_nil, Bool.and_true, Bool.and_eq_true]; exact ⟨⟨rfl, rfl, rfl⟩, rowC_sc _ _⟩) rfl (hpA := [⟨112, 3, [[.imm (.sl ((q).F.map Node.iv)), .os 6 (q).L.length, iav (q).why]]⟩, ⟨58, 36, (q).L.map rowC⟩]) (by simp only [List.map_cons, List.map_nil, renC]; rfl) (r' := bav bb) rfl rfl ?_; try dsimp only [setAll, List.drop_succ_cons, List.drop_zero, List.drop_nil, List.set_cons_succ, List.set_cons_zero, List.cons_append, List.nil_append, List.append_nil, len, Nat.reduceAdd] | refine AL.callG [2, 6] 7 rfl rfl rfl rfl rfl (caps := []) rfl c4 rfl (by simp only [List.map_cons, List.map_nil, renC]; rfl) rfl rfl (by simp only [List.all_cons, List.all_nil, Bool.and_true, Bool.and_eq_true]; exact ⟨⟨rfl, rfl, rfl⟩, rowC_sc _ _⟩) rfl (by simp only [List.all_cons, List.all_nil, Bool.and_true, Bool.and_eq_true]; exact ⟨⟨rfl, rfl, rfl⟩, rowC_sc _ _, rfl, rowC_sc _ _⟩) rfl (hpA := [⟨112, 3, [[.imm (.sl ((q).F.map Node.iv)), .os 6 (q).L.length, iav (q).why]]⟩, ⟨58, 36, (q).L.map rowC⟩, ⟨24, 1, [[.imm (.sl ((q).F.map Node.iv))]]⟩, ⟨58, 36, (q).L.map rowC⟩]) (by simp only [List.map_cons, List.map_nil, renC]; rfl) (r' := .tup [fav q.F, .os 8 q.L.length, iav 0]) rfl rfl ?_; try dsimp only [setAll, List.drop_succ_cons, List.drop_zero, List.drop_nil, List.set_cons_succ, List.set_cons_zero, List.cons_append, List.nil_append, List.append_nil, len, Nat.reduceAdd] | refine AL.nil ?_) | ((with_reducible show DQ _ _ _ _ _ _); first | refine DQ.stepc (LS.store (i := ti24) (v := fav q.F) (ty := 24) (sz := 1) (rows := [ti24.zero]) (r := ti24.zero) tabs rfl rfl rfl rfl rfl rfl rfl rfl rfl rfl (Nat.le_of_ble_eq_true rfl) rfl) rfl rfl rfl rfl rfl ?_ | refine DQ.stepc (LS.val tabs rfl rfl rfl) rfl rfl rfl rfl rfl ?_ | refine DQ.stepc (LS.skip rfl rfl) rfl rfl rfl rfl rfl ?_ | refine DQ.nilM (by kernel_rfl) ?_) | refine AW.seq ?_ | refine AW.region ?_ | refine Then.norm ?_ | refine AW.skip ?_ | refine AW.condT rfl ?_ | refine AW.condF rfl ?_ | (refine AW.cond rfl (fun hc => ?_) (fun hc => ?_) <;> (try simp only [hsx] at hc) <;> (try first | (exfalso; omega) | contradiction | (exfalso; simp [dec_eq] at hc; done))) | refine AW.ret ?_ | refine Then.ret ?_ | refine AW.drawW mixed (by kernel_rfl) ?_))
  exact RG.ret 9 rfl rfl rfl rfl (by simp only [List.all_cons, List.all_nil, Bool.and_true, Bool.and_eq_true]; exact ⟨rfl, rfl, ⟨rfl, rfl, rfl⟩, rfl, rfl, rfl, rowC_sc _ _, rfl, rowC_sc _ _⟩) (by simp [cxG])
/-- what a call that puts answers. -/
noncomputable def ansP (e : Int) (q : PS) : AV := if e ≠ 0 then .tup [fav [], .imm (.sl []), iav e] else if q.why ≠ 0 then .tup [fav [], .imm (.sl []), iav q.why] else .tup [fav q.F, .imm (.sl (q.L.map Change.iv)), iav 0]
theorem PutR.len {h a b : Int} {v : List Int} {p q : PS} {bb : Bool} (H : PutR h a b v p q bb) (h0 : p.why = 0) : q.why = 0 → q.L = p.L ++ [putC p.F h a b v] := by
  intro hq
  cases H with
  | no e => simp [refP, h0] at hq; exact absurd hq e
  | yes _ _ e H =>
    cases H with
    | stop h => exact absurd h0 h
    | bad g w _ hw _ => exact absurd hq hw
    | ok g _ _ => rfl
theorem putC_fit (f : List Node) (h a b : Int) (v : List Int) (hv : v.length ≤ 1000000000) : FitC (putC f h a b v) := ⟨hv, fit0, by simp [putC, c0], by simp [putC, c0]⟩
theorem replace_c (f : List Node) (q : PS) (bb : Bool) (h : Int) (v : List Int) (a b : Int) (hf : Fit f) (a0 : 0 ≤ a) (a1 : a < 4294967296) (b0 : 0 ≤ b) (b1 : b < 4294967296) (hv : v.length ≤ 1000000000) (H : cfP f h false = 0 → PutR h a b v (pen0 f) q bb) : PureC Tryz.prog 19 [fav f, iav h, u32 a, u32 b, .imm (.sl (v.map u16))] (ansP (cfP f h false) q) := by
  unfold ansP
  by_cases he : cfP f h false = 0
  · rw [if_neg (by omega)]
    have H := H he
    by_cases hw : q.why = 0
    · rw [if_neg (by omega)]
      have hLe := H.len rfl hw
      rw [show (pen0 f).L = [] from rfl, List.nil_append] at hLe
      have c1 := put62_c f q bb h v a b hf a0 a1 b0 b1 hv he H hw (by rw [hLe]; simp) (by rw [hLe]; simp) (by
        rw [hLe]
        intro i i0 i1
        have : i = 0 := by simp at i1; omega
        subst this
        exact putC_fit _ _ _ _ _ hv)
      refine PureC.mk tabs Tryz.func19 21 [.cell 10 24, .tmp 11, .tmp 12] rfl rfl rfl rfl rfl ?_; intro w0 X
      (repeat' (first | ((with_reducible show AL _ _ _ _ _); first | (refine AL.step tabs rfl ?_; try dsimp only [len, List.nil_append, List.cons_append]) | refine AL.callG [1, 2] 4 rfl rfl rfl rfl rfl (caps := []) rfl c1 rfl rfl rfl rfl rfl rfl (by simp only [List.all_cons, List.all_nil, Bool.and_true, Bool.and_eq_true]; exact ⟨rfl, rfl, ⟨rfl, rfl, rfl⟩, rfl, rfl, rfl, rowC_sc _ _, rfl, rowC_sc _ _⟩) rfl (hpA := [⟨25, 1, [[u32 a]]⟩, ⟨25, 1, [[u32 b]]⟩, ⟨112, 3, [[.imm (.sl ((q).F.map Node.iv)), .os 8 (q).L.length, iav (q).why]]⟩, ⟨24, 1, [[.imm (.sl (f.map Node.iv))]]⟩, ⟨24, 1, [[.imm (.sl ((q).F.map Node.iv))]]⟩, ⟨24, 1, [[.imm (.sl (f.map Node.iv))]]⟩, ⟨58, 36, (q).L.map rowC⟩, ⟨24, 1, [[.imm (.sl ((q).F.map Node.iv))]]⟩, ⟨58, 36, (q).L.map rowC⟩]) (by simp only [List.map_cons, List.map_nil, renC]; rfl) (r' := .tup [fav q.F, .os 10 q.L.length, iav 0]) rfl rfl ?_; try dsimp only [setAll, List.drop_succ_cons, List.drop_zero, List.drop_nil, List.set_cons_succ, List.set_cons_zero, List.cons_append, List.nil_append, List.append_nil, len, Nat.reduceAdd] | refine AL.nil ?_) | ((with_reducible show DQ _ _ _ _ _ _); first | refine DQ.stepc (LS.store (i := ti24) (v := fav q.F) (ty := 24) (sz := 1) (rows := [ti24.zero]) (r := ti24.zero) tabs rfl rfl rfl rfl rfl rfl rfl rfl rfl rfl (Nat.le_of_ble_eq_true rfl) rfl) rfl rfl rfl rfl rfl ?_ | refine DQ.stepc (LS.val tabs rfl rfl rfl) rfl rfl rfl rfl rfl ?_ | refine DQ.stepc (LS.skip rfl rfl) rfl rfl rfl rfl rfl ?_ | refine DQ.nilM (by kernel_rfl) ?_) | refine AW.seq ?_ | refine AW.region ?_ | refine Then.norm ?_ | refine AW.skip ?_ | refine AW.ret ?_ | refine Then.ret ?_ | refine AW.drawW mixed (by kernel_rfl) ?_))
      exact RQ.ret rfl (Fz.tup (.cons (Fz.im rfl) (.cons (Fz.os (b := ⟨58, 36, q.L.map rowC⟩) (rows := q.L.map Change.iv) rfl (List.length_map _).symm (by rw [List.map_map]; rfl)) (.cons (Fz.im rfl) .nil))))
    · rw [if_pos hw]
      have c1 := put62err_c f q bb h v a b hf a0 a1 b0 b1 hv he H hw
      refine PureC.mk tabs Tryz.func19 21 [.cell 10 24, .tmp 11, .tmp 12] rfl rfl rfl rfl rfl ?_; intro w0 X
      (repeat' (first | ((with_reducible show AL _ _ _ _ _); first | (refine AL.step tabs rfl ?_; try dsimp only [len, List.nil_append, List.cons_append]) | refine AL.callG [1, 2] 4 rfl rfl rfl rfl rfl (caps := []) rfl c1 rfl rfl rfl rfl rfl rfl rfl rfl (hpA := [⟨25, 1, [[u32 a]]⟩, ⟨25, 1, [[u32 b]]⟩]) rfl (r' := .tup [.agg [.nils], .nils, iav q.why]) rfl rfl ?_; try dsimp only [setAll, List.drop_succ_cons, List.drop_zero, List.drop_nil, List.set_cons_succ, List.set_cons_zero, List.cons_append, List.nil_append, List.append_nil, len, Nat.reduceAdd] | refine AL.nil ?_) | ((with_reducible show DQ _ _ _ _ _ _); first | refine DQ.stepc (LS.store (i := ti24) (v := .agg [.nils]) (ty := 24) (sz := 1) (rows := [ti24.zero]) (r := ti24.zero) tabs rfl rfl rfl rfl rfl rfl rfl rfl rfl rfl (Nat.le_of_ble_eq_true rfl) rfl) rfl rfl rfl rfl rfl ?_ | refine DQ.stepc (LS.val tabs rfl rfl rfl) rfl rfl rfl rfl rfl ?_ | refine DQ.stepc (LS.skip rfl rfl) rfl rfl rfl rfl rfl ?_ | refine DQ.nilM (by kernel_rfl) ?_) | refine AW.seq ?_ | refine AW.region ?_ | refine Then.norm ?_ | refine AW.skip ?_ | refine AW.ret ?_ | refine Then.ret ?_ | refine AW.drawW mixed (by kernel_rfl) ?_))
      exact RQ.fin rfl rfl rfl
  · rw [if_pos he]
    have c1 := put62no_c f h v a b hf he
    refine PureC.mk tabs Tryz.func19 21 [.cell 10 24, .tmp 11, .tmp 12] rfl rfl rfl rfl rfl ?_; intro w0 X
    (repeat' (first | ((with_reducible show AL _ _ _ _ _); first | (refine AL.step tabs rfl ?_; try dsimp only [len, List.nil_append, List.cons_append]) | refine AL.callG [1, 2] 4 rfl rfl rfl rfl rfl (caps := []) rfl c1 rfl rfl rfl rfl rfl rfl rfl rfl (hpA := [⟨25, 1, [[u32 a]]⟩, ⟨25, 1, [[u32 b]]⟩]) rfl (r' := .tup [.agg [.nils], .nils, iav (cfP f h false)]) rfl rfl ?_; try dsimp only [setAll, List.drop_succ_cons, List.drop_zero, List.drop_nil, List.set_cons_succ, List.set_cons_zero, List.cons_append, List.nil_append, List.append_nil, len, Nat.reduceAdd] | refine AL.nil ?_) | ((with_reducible show DQ _ _ _ _ _ _); first | refine DQ.stepc (LS.store (i := ti24) (v := .agg [.nils]) (ty := 24) (sz := 1) (rows := [ti24.zero]) (r := ti24.zero) tabs rfl rfl rfl rfl rfl rfl rfl rfl rfl rfl (Nat.le_of_ble_eq_true rfl) rfl) rfl rfl rfl rfl rfl ?_ | refine DQ.stepc (LS.val tabs rfl rfl rfl) rfl rfl rfl rfl rfl ?_ | refine DQ.stepc (LS.skip rfl rfl) rfl rfl rfl rfl rfl ?_ | refine DQ.nilM (by kernel_rfl) ?_) | refine AW.seq ?_ | refine AW.region ?_ | refine Then.norm ?_ | refine AW.skip ?_ | refine AW.ret ?_ | refine Then.ret ?_ | refine AW.drawW mixed (by kernel_rfl) ?_))
    exact RQ.fin rfl rfl rfl
end Go.Proofs.YtmhejcnaanocpaaGreat.A
