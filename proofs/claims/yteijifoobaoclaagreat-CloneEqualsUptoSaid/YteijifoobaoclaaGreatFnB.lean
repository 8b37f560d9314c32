/- Contracts: package forest, what Check asks of a node. -/
import Derived.Test.YteijifoobaoclaaGreatFnA
namespace Go.Proofs.YteijifoobaoclaaGreat.A
set_option linter.unusedVariables false
set_option linter.unusedSimpArgs false
set_option maxRecDepth 100000
set_option maxHeartbeats 4000000
theorem drop_next {α : Type} [Inhabited α] {l : List α} {i : Int} (h0 : 0 ≤ i) (h1 : i < l.length) : l.drop i.toNat = atI l i :: l.drop (i + 1).toNat := by
  rw [show (i + 1).toNat = i.toNat + 1 by omega]
  unfold atI
  rw [List.getD_eq_getElem?_getD, List.getElem?_eq_getElem (by omega)]
  exact List.drop_eq_getElem_cons (by omega)
theorem drop_end {α : Type} {l : List α} {i : Int} (h : l.length ≤ i) : l.drop i.toNat = [] := List.drop_eq_nil_of_le (by omega)
def key (n : Name) : ByteArray × ByteArray := (n.sp, n.lc)
theorem keyOf_c (n : Name) : PureC Tryz.prog 132 [n.av] (.agg [sav (key n).1, sav (key n).2]) := by
  refine PureC.mk tabs Tryz.func132 8 [.cell 2 151] rfl rfl rfl rfl rfl ?_; intro w0 X
  (repeat' (first | ((with_reducible show AL _ _ _ _ _); first | (refine AL.step tabs rfl ?_; try dsimp only [len, List.nil_append, List.cons_append]) | refine AL.nil ?_ | (refine AL.gsplitE rfl rfl rfl (fun hc => ?_) (fun hc => ?_) <;> (fail_if_success (exact absurd hc (by decide))) <;> (try simp only [hsx] at hc) <;> (try first | (exfalso; omega) | contradiction | (exfalso; simp [dec_eq] at hc; done))) | (refine AL.op rfl (OpOK.ari64 rfl rfl rfl rfl rfl (by omega) (by omega)) ?_) | (refine AL.op rfl (OpOK.index_map tabs rfl rfl rfl rfl rfl rfl rfl (fun _ => rfl) (by decide) (by omega) (by omega)) ?_) | (refine AL.op rfl (OpOK.eqs rfl rfl rfl rfl eqt45 rfl rfl) ?_) | (refine AL.op rfl (OpOK.eqs rfl rfl rfl rfl eqt68 rfl rfl) ?_) | (refine AL.op rfl (OpOK.eqs rfl rfl rfl rfl eqt146 rfl rfl) ?_) | (refine AL.op rfl (OpOK.eqs rfl rfl rfl rfl eqt151 rfl rfl) ?_)) | refine AW.seq ?_ | refine AW.region ?_ | refine Then.norm ?_ | refine AW.skip ?_ | refine AW.block ?_ | refine InB.norm ?_ | refine AW.condT rfl ?_ | refine AW.condF rfl ?_ | (refine AW.cond rfl (fun hc => ?_) (fun hc => ?_) <;> (try simp only [hsx] at hc) <;> (try first | (exfalso; omega) | contradiction | (exfalso; simp [dec_eq] at hc; done))) | refine AW.ret ?_ | refine AW.exit ?_ | refine Then.ret ?_ | refine Then.exit ?_ | refine InB.ret ?_ | refine InB.here ?_ | refine InB.off rfl ?_ | refine Rnd.ret ?_ | refine Rnd.exit ?_))
  exact RQ.fin' rfl rfl rfl
structure Trait where
  known : Bool
  data : Bool
  kids : Bool
  hung : Bool
  full : Bool
  locl : Bool
def Trait.av (t : Trait) : AV := .agg [bav t.known, bav t.data, bav t.kids, bav t.hung, bav t.full, bav t.locl]
def traitsOf (k : Int) : Trait :=
  if k = 1 then ⟨true, false, true, true, true, false⟩ else
  if k = 3 ∨ k = 4 ∨ k = 8 then ⟨true, true, false, true, false, false⟩ else
  if k = 7 then ⟨true, true, false, true, false, true⟩ else
  if k = 10 then ⟨true, false, false, true, false, true⟩ else
  if k = 9 ∨ k = 11 ∨ k = 12 then ⟨true, false, true, false, false, false⟩ else ⟨false, false, false, false, false, false⟩
theorem traits_c (k : Int) : PureC Tryz.prog 102 [kav k] (traitsOf k).av := by
  have e : ∀ t, traitsOf k = t → (PureC Tryz.prog 102 [kav k] t.av → PureC Tryz.prog 102 [kav k] (traitsOf k).av) := fun t h h1 => by rw [h]; exact h1
  refine PureC.mk tabs Tryz.func102 24 [.cell 2 120] rfl rfl rfl rfl rfl ?_; intro w0 X
  (repeat' (first | ((with_reducible show AL _ _ _ _ _); first | (refine AL.step tabs rfl ?_; try dsimp only [len, List.nil_append, List.cons_append]) | refine AL.nil ?_ | (refine AL.gsplitE rfl rfl rfl (fun hc => ?_) (fun hc => ?_) <;> (fail_if_success (exact absurd hc (by decide))) <;> (try simp only [hsx] at hc) <;> (try first | (exfalso; omega) | contradiction | (exfalso; simp [dec_eq] at hc; done))) | (refine AL.op rfl (OpOK.ari64 rfl rfl rfl rfl rfl (by omega) (by omega)) ?_) | (refine AL.op rfl (OpOK.index_map tabs rfl rfl rfl rfl rfl rfl rfl (fun _ => rfl) (by decide) (by omega) (by omega)) ?_) | (refine AL.op rfl (OpOK.eqs rfl rfl rfl rfl eqt45 rfl rfl) ?_) | (refine AL.op rfl (OpOK.eqs rfl rfl rfl rfl eqt68 rfl rfl) ?_) | (refine AL.op rfl (OpOK.eqs rfl rfl rfl rfl eqt146 rfl rfl) ?_) | (refine AL.op rfl (OpOK.eqs rfl rfl rfl rfl eqt151 rfl rfl) ?_)) | refine AW.seq ?_ | refine AW.region ?_ | refine Then.norm ?_ | refine AW.skip ?_ | refine AW.block ?_ | refine InB.norm ?_ | refine AW.condT rfl ?_ | refine AW.condF rfl ?_ | (refine AW.cond rfl (fun hc => ?_) (fun hc => ?_) <;> (try simp only [hsx] at hc) <;> (try first | (exfalso; omega) | contradiction | (exfalso; simp [dec_eq] at hc; done))) | refine AW.ret ?_ | refine AW.exit ?_ | refine Then.ret ?_ | refine Then.exit ?_ | refine InB.ret ?_ | refine InB.here ?_ | refine InB.off rfl ?_ | refine Rnd.ret ?_ | refine Rnd.exit ?_))
  all_goals (rw [show traitsOf k = _ by unfold traitsOf; simp [*]; rfl]; first | exact RQ.fin rfl rfl rfl | exact RQ.fin' rfl rfl rfl)
noncomputable def namingB (n : Node) (t : Trait) : Bool :=
  if t.full = true then namedB n.name else
  if t.locl = true then dec (n.name.lc ≠ es) && shortB [n.name.lc] && dec (n.name.sp = es ∧ n.name.pf = es) else dec (n.name.sp = es ∧ n.name.pf = es ∧ n.name.lc = es)
theorem naming_c (n : Node) (t : Trait) : PureC Tryz.prog 103 [n.av, t.av] (bav (namingB n t)) := by
  refine PureC.mk tabs Tryz.func103 38 [.tmp 4] rfl rfl rfl rfl rfl ?_; intro w0 X
  (repeat' (first | ((with_reducible show AL _ _ _ _ _); first | (refine AL.step tabs rfl ?_; try dsimp only [len, List.nil_append, List.cons_append]) | refine AL.op rfl (OpOK.call rfl rfl rfl rfl (named_c n.name) rfl) ?_ | refine AL.op rfl (OpOK.callfz rfl rfl rfl rfl (short_c [n.name.lc] (by simp)) rfl rfl) ?_ | refine AL.nil ?_ | (refine AL.gsplitE rfl rfl rfl (fun hc => ?_) (fun hc => ?_) <;> (fail_if_success (exact absurd hc (by decide))) <;> (try simp only [hsx] at hc) <;> (try first | (exfalso; omega) | contradiction | (exfalso; simp [dec_eq] at hc; done))) | (refine AL.op rfl (OpOK.ari64 rfl rfl rfl rfl rfl (by omega) (by omega)) ?_) | (refine AL.op rfl (OpOK.index_map tabs rfl rfl rfl rfl rfl rfl rfl (fun _ => rfl) (by decide) (by omega) (by omega)) ?_) | (refine AL.op rfl (OpOK.eqs rfl rfl rfl rfl eqt45 rfl rfl) ?_) | (refine AL.op rfl (OpOK.eqs rfl rfl rfl rfl eqt68 rfl rfl) ?_) | (refine AL.op rfl (OpOK.eqs rfl rfl rfl rfl eqt146 rfl rfl) ?_) | (refine AL.op rfl (OpOK.eqs rfl rfl rfl rfl eqt151 rfl rfl) ?_)) | refine AW.seq ?_ | refine AW.region ?_ | refine Then.norm ?_ | refine AW.skip ?_ | refine AW.block ?_ | refine InB.norm ?_ | refine AW.condT rfl ?_ | refine AW.condF rfl ?_ | (refine AW.cond rfl (fun hc => ?_) (fun hc => ?_) <;> (try simp only [hsx] at hc) <;> (try first | (exfalso; omega) | contradiction | (exfalso; simp [dec_eq] at hc; done))) | refine AW.ret ?_ | refine AW.exit ?_ | refine Then.ret ?_ | refine Then.exit ?_ | refine InB.ret ?_ | refine InB.here ?_ | refine InB.off rfl ?_ | refine Rnd.ret ?_ | refine Rnd.exit ?_))
  all_goals (refine RQ.fin rfl rfl (congrArg bav ?_); simp_all [namingB, es, dec_T, dec_F, and_dec])
def famGo (K : Int → Int) (doc : Bool) : List Int → Int → Int → Bool
  | [], e, d => !doc || (decide (e < 2) && decide (d < 2))
  | k :: r, e, d =>
    if K k = 1 then famGo K doc r (e + 1) d else
    if K k = 10 then (if doc = false ∨ 0 < e then false else famGo K doc r e (d + 1)) else
    if K k = 3 ∨ K k = 4 then (if doc = true then false else famGo K doc r e d) else
    if K k = 8 ∨ K k = 7 then famGo K doc r e d else false
noncomputable def famB (f : List Node) (n : Node) : Bool := famGo (fun k => (nodeAt f k).kind) (dec (n.kind = 9)) n.kids 0 0
theorem family_c (f : List Node) (n : Node) (hl : f.length ≤ 1000000000) (hk : n.kids.length ≤ 1000000000) : PureC Tryz.prog 133 [fav f, n.av] (bav (famB f n)) := by
  refine PureC.mk tabs Tryz.func133 55 [.tmp 4] rfl rfl rfl rfl rfl ?_; intro w0 X
  (repeat' (first | ((with_reducible show AL _ _ _ _ _); first | (refine AL.step tabs rfl ?_; try dsimp only [len, List.nil_append, List.cons_append]) | refine AL.nil ?_ | (refine AL.gsplitE rfl rfl rfl (fun hc => ?_) (fun hc => ?_) <;> (fail_if_success (exact absurd hc (by decide))) <;> (try simp only [hsx] at hc) <;> (try first | (exfalso; omega) | contradiction | (exfalso; simp [dec_eq] at hc; done))) | (refine AL.op rfl (OpOK.ari64 rfl rfl rfl rfl rfl (by omega) (by omega)) ?_) | (refine AL.op rfl (OpOK.index_map tabs rfl rfl rfl rfl rfl rfl rfl (fun _ => rfl) (by decide) (by omega) (by omega)) ?_) | (refine AL.op rfl (OpOK.eqs rfl rfl rfl rfl eqt45 rfl rfl) ?_) | (refine AL.op rfl (OpOK.eqs rfl rfl rfl rfl eqt68 rfl rfl) ?_) | (refine AL.op rfl (OpOK.eqs rfl rfl rfl rfl eqt146 rfl rfl) ?_) | (refine AL.op rfl (OpOK.eqs rfl rfl rfl rfl eqt151 rfl rfl) ?_)) | fail | refine AW.seq ?_ | refine AW.region ?_ | refine Then.norm ?_ | refine AW.skip ?_ | refine AW.block ?_ | refine InB.norm ?_ | refine AW.condT rfl ?_ | refine AW.condF rfl ?_ | (refine AW.cond rfl (fun hc => ?_) (fun hc => ?_) <;> (try simp only [hsx] at hc) <;> (try first | (exfalso; omega) | contradiction | (exfalso; simp [dec_eq] at hc; done))) | refine AW.ret ?_ | refine AW.exit ?_ | refine Then.ret ?_ | refine Then.exit ?_ | refine InB.ret ?_ | refine InB.here ?_ | refine InB.off rfl ?_ | refine Rnd.ret ?_ | refine Rnd.exit ?_))
  refine AW.loop (α := Int × Int × Int) (fun x => ⟨[(2, .ptr 0 1 0 0), (5, bav (dec (n.kind = 9))), (6, iav x.2.1), (7, iav x.2.2), (14, .imm (.sl (n.kids.map i64))), (15, iav (n.kids.map i64).length), (16, iav x.1)], [⟨24, 1, [[.imm (.sl (f.map Node.iv))]]⟩]⟩) (fun x => 0 ≤ x.1 ∧ x.1 ≤ n.kids.length ∧ 0 ≤ x.2.1 ∧ x.2.1 ≤ x.1 ∧ 0 ≤ x.2.2 ∧ x.2.2 ≤ x.1 ∧ famGo (fun k => (nodeAt f k).kind) (dec (n.kind = 9)) (n.kids.drop x.1.toNat) x.2.1 x.2.2 = famB f n) (fun x => (n.kids.length - x.1).toNat) (0, 0, 0) (Le.cut 1 rfl (by repeat' (first | exact trivial | refine ⟨rfl, ?_⟩)) rfl rfl (Nat.zero_le _)) ⟨by simp, by simp, by simp, by simp, by simp, by simp, rfl⟩ ?_
  rintro ⟨i, e, d⟩ ⟨h0, h1, h3, h4, h5, h6, h2⟩
  simp only at h0 h1 h2 h3 h4 h5 h6
  (repeat' (first | ((with_reducible show AL _ _ _ _ _); first | (refine AL.step tabs rfl ?_; try dsimp only [len, List.nil_append, List.cons_append]) | refine AL.op rfl (OpOK.call rfl rfl rfl rfl (kind_c f _ hl) rfl) ?_ | refine AL.nil ?_ | (refine AL.gsplitE rfl rfl rfl (fun hc => ?_) (fun hc => ?_) <;> (fail_if_success (exact absurd hc (by decide))) <;> (try simp only [hsx] at hc) <;> (try first | (exfalso; omega) | contradiction | (exfalso; simp [dec_eq] at hc; done))) | (refine AL.op rfl (OpOK.ari64 rfl rfl rfl rfl rfl (by omega) (by omega)) ?_) | (refine AL.op rfl (OpOK.index_map tabs rfl rfl rfl rfl rfl rfl rfl (fun _ => rfl) (by decide) (by omega) (by omega)) ?_) | (refine AL.op rfl (OpOK.eqs rfl rfl rfl rfl eqt45 rfl rfl) ?_) | (refine AL.op rfl (OpOK.eqs rfl rfl rfl rfl eqt68 rfl rfl) ?_) | (refine AL.op rfl (OpOK.eqs rfl rfl rfl rfl eqt146 rfl rfl) ?_) | (refine AL.op rfl (OpOK.eqs rfl rfl rfl rfl eqt151 rfl rfl) ?_)) | refine AW.seq ?_ | refine AW.region ?_ | refine Then.norm ?_ | refine AW.skip ?_ | refine AW.block ?_ | refine InB.norm ?_ | refine AW.condT rfl ?_ | refine AW.condF rfl ?_ | (refine AW.cond rfl (fun hc => ?_) (fun hc => ?_) <;> (try simp only [hsx] at hc) <;> (try first | (exfalso; omega) | contradiction | (exfalso; simp [dec_eq] at hc; done))) | refine AW.ret ?_ | refine AW.exit ?_ | refine Then.ret ?_ | refine Then.exit ?_ | refine InB.ret ?_ | refine InB.here ?_ | refine InB.off rfl ?_ | refine Rnd.ret ?_ | refine Rnd.exit ?_))
  all_goals first
    | (refine RQ.fin rfl rfl (congrArg bav ?_); rw [← h2]; clear h2; (first | rw [drop_next h0 (by assumption)] | rw [drop_end (by assumption)]); simp [famGo, dec_T, dec_F, dec_eq, *] <;> omega)
    | (refine Rnd.norm (i + 1, e + 1, d) (Le.cut 1 rfl ⟨rfl, rfl, rfl, rfl, rfl, rfl, rfl, trivial⟩ rfl rfl (Nat.zero_le _)) ⟨?_, ?_, ?_, ?_, ?_, ?_, ?_⟩ ?_ <;> simp only <;> first | omega | (rw [← h2]; clear h2; rw [drop_next h0 (by assumption)]; simp [famGo, dec_T, dec_F, dec_eq, *]; done))
    | (refine Rnd.norm (i + 1, e, d + 1) (Le.cut 1 rfl ⟨rfl, rfl, rfl, rfl, rfl, rfl, rfl, trivial⟩ rfl rfl (Nat.zero_le _)) ⟨?_, ?_, ?_, ?_, ?_, ?_, ?_⟩ ?_ <;> simp only <;> first | omega | (rw [← h2]; clear h2; rw [drop_next h0 (by assumption)]; simp [famGo, dec_T, dec_F, dec_eq, *]; done))
    | (refine Rnd.norm (i + 1, e, d) (Le.cut 1 rfl ⟨rfl, rfl, rfl, rfl, rfl, rfl, rfl, trivial⟩ rfl rfl (Nat.zero_le _)) ⟨?_, ?_, ?_, ?_, ?_, ?_, ?_⟩ ?_ <;> simp only <;> first | omega | (rw [← h2]; clear h2; rw [drop_next h0 (by assumption)]; simp [famGo, dec_T, dec_F, dec_eq, *]; done))
end Go.Proofs.YteijifoobaoclaaGreat.A
