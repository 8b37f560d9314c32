/- Contracts: forest.All of changes that can be done. -/
import Derived.Test.YtjjdabihnmilgaaGreatXRTGrpAP
import Derived.Test.YtjjdabihnmilgaaGreatXRTGrpAM
import Derived.Test.YtjjdabihnmilgaaGreatXRTGrpAJ
import Derived.Test.YtjjdabihnmilgaaGreatXRTGrpAN
namespace Go.Proofs.YtjjdabihnmilgaaGreat.A
set_option linter.unusedVariables false
set_option linter.unusedSimpArgs false
set_option maxRecDepth 100000
set_option maxHeartbeats 4000000
def Chain : List Node → List Change → List Node → Prop
  | f, [], g => f = g
  | f, c :: r, g => ∃ m, PureC Tryz.prog 45 [fav f, c.av] (.tup [fav m, iav 0]) ∧ Chain m r g
theorem copyP_c (f : List Node) (hf : Fit f) (h1 : 0 < f.length) : PureC Tryz.prog 44 [fav f] (fav f) := by
  obtain ⟨T, hTe⟩ : ∃ T, T = f.map rowS := ⟨_, rfl⟩
  have hT : T.length = f.length := by rw [hTe]; exact List.length_map _
  have hTi : T.all (fun r => r.all AV.dat) = true := by rw [hTe]; exact rowS_dat f
  have hTl : ∀ r ∈ T, r.length = 16 := by rw [hTe]; exact rowS_16 f
  have hcp : ∀ i : Int, 0 ≤ i → i < f.length → PureC Tryz.prog 90 [(atI f i).av] (.agg (atI T i)) := by rw [hTe]; exact copyAt_c f hf
  have hl := hf.len
  have hm : (List.map Node.iv f).length = f.length := List.length_map _
  refine PureC.mk tabs Tryz.func44 27 [.cell 2 24] rfl rfl rfl rfl rfl ?_; intro w0 X
  refine AW.reserve 81 16 rfl ?_
  (repeat' (first | ((with_reducible show AL _ _ _ _ _); first | (refine AL.step tabs rfl ?_; try dsimp only [len, List.nil_append, List.cons_append]) | refine AL.ope rfl (OpOK.make_at 0 tabs rfl rfl rfl rfl rfl rfl rfl rfl rfl (by omega) (by omega) (by omega) rfl (by simp only [ti81]; omega)) rfl ?_ | refine AL.nil ?_ | (refine AL.op rfl (OpOK.ari64 rfl rfl rfl rfl rfl (by omega) (by omega)) ?_) | (refine AL.op rfl (OpOK.index_map tabs rfl rfl rfl rfl rfl rfl rfl (fun _ => rfl) (by decide) (by omega) (by omega)) ?_)) | ((with_reducible show DQ _ _ _ _ _ _); first | refine DQ.stepc (LS.val tabs rfl rfl rfl) rfl rfl rfl rfl rfl ?_ | refine DQ.stepc (LS.skip rfl rfl) rfl rfl rfl rfl rfl ?_ | refine DQ.nilM (by kernel_rfl) ?_ | refine DQ.stepc (LS.ari64 rfl rfl rfl rfl rfl rfl (by omega) (by omega)) rfl rfl rfl rfl rfl ?_ | refine DQ.stepc (LS.index_map tabs rfl rfl rfl rfl rfl rfl rfl rfl (fun _ => rfl) (by decide) (by omega) (by omega)) rfl rfl rfl rfl rfl ?_) | refine AW.seq ?_ | refine AW.region ?_ | refine Then.norm ?_ | refine AW.skip ?_ | refine AW.block ?_ | refine InB.norm ?_ | refine AW.condT rfl ?_ | refine AW.condF rfl ?_ | (refine AW.cond rfl (fun hc => ?_) (fun hc => ?_) <;> (try simp only [hsx] at hc) <;> (try first | (exfalso; omega) | contradiction | (exfalso; simp [dec_eq] at hc; done))) | refine AW.ret ?_ | refine AW.exit ?_ | refine Then.ret ?_ | refine Then.exit ?_ | refine InB.ret ?_ | refine InB.here ?_ | refine InB.off rfl ?_ | refine Rnd.ret ?_ | refine Rnd.exit ?_ | refine AW.drawW mixed (by kernel_rfl) ?_))
  refine AW.loop (α := Int) (fun i => ⟨[(2, .ptr 2 1 0 0), (3, .ptr 3 1 0 0), (12, .imm (.sl (f.map Node.iv))), (13, iav (List.map Node.iv f).length), (14, iav i)], [⟨81, 16, T.take i.toNat ++ List.replicate (f.length - i.toNat) ti81.zero⟩, ⟨24, 1, [[.imm (.sl (f.map Node.iv))]]⟩, ⟨24, 1, [[.nils]]⟩, ⟨24, 1, [[.os 0 f.length]]⟩]⟩) (fun i => 0 ≤ i ∧ i ≤ f.length) (fun i => (f.length - i).toNat) 0 (Le.cut 4 (by rw [← hm]; rfl) (by repeat' (first | exact trivial | refine ⟨rfl, ?_⟩)) rfl (by simp only [List.all_cons, List.all_nil, Bool.and_true, Bool.and_eq_true]; exact ⟨all_rows _ _ _ (all_im hTi _), rfl, rfl, rfl⟩) (Nat.zero_le _)) ⟨by omega, by omega⟩ ?_
  intro i ⟨h0, h2⟩
  (repeat' (first | ((with_reducible show AL _ _ _ _ _); first | (refine AL.step tabs rfl ?_; try dsimp only [len, List.nil_append, List.cons_append]) | refine AL.nil ?_ | (refine AL.op rfl (OpOK.ari64 rfl rfl rfl rfl rfl (by omega) (by omega)) ?_) | (refine AL.op rfl (OpOK.index_map tabs rfl rfl rfl rfl rfl rfl rfl (fun _ => rfl) (by decide) (by omega) (by omega)) ?_)) | ((with_reducible show DQ _ _ _ _ _ _); first | refine DQ.stepc (LS.call rfl rfl rfl rfl rfl (hcp i h0 (by omega)) rfl) rfl rfl rfl rfl rfl ?_ | refine DQ.stepc (LS.index_own (b := ⟨81, 16, T.take i.toNat ++ List.replicate (f.length - i.toNat) ti81.zero⟩) tabs rfl rfl rfl rfl rfl rfl rfl rfl rfl (take_rows _ _ _ _ hT h0 h2).symm rfl (by omega) (by omega)) rfl rfl rfl rfl rfl ?_ | refine DQ.stepc (LS.store (i := ti81) (v := .agg (atI T i)) (ty := 81) (sz := 16) (rows := T.take i.toNat ++ List.replicate (f.length - i.toNat) ti81.zero) tabs rfl rfl rfl rfl rfl rfl rfl (take_rows _ _ _ _ hT h0 h2).symm (hTl _ (atI_mem h0 (by omega))) (by simp only [avCells, List.all_eq_true]; exact fun c hc => im1_cell (List.all_eq_true.1 (List.all_eq_true.1 hTi _ (atI_mem h0 (by omega))) c hc)) (by decide) (take_at _ _ _ _ hT h0 (by omega))) rfl rfl rfl rfl rfl ?_ | refine DQ.stepc (LS.val tabs rfl rfl rfl) rfl rfl rfl rfl rfl ?_ | refine DQ.stepc (LS.skip rfl rfl) rfl rfl rfl rfl rfl ?_ | refine DQ.nilM (by kernel_rfl) ?_ | refine DQ.stepc (LS.ari64 rfl rfl rfl rfl rfl rfl (by omega) (by omega)) rfl rfl rfl rfl rfl ?_ | refine DQ.stepc (LS.index_map tabs rfl rfl rfl rfl rfl rfl rfl rfl (fun _ => rfl) (by decide) (by omega) (by omega)) rfl rfl rfl rfl rfl ?_) | refine AW.seq ?_ | refine AW.region ?_ | refine Then.norm ?_ | refine AW.skip ?_ | refine AW.block ?_ | refine InB.norm ?_ | refine AW.condT rfl ?_ | refine AW.condF rfl ?_ | (refine AW.cond rfl (fun hc => ?_) (fun hc => ?_) <;> (try simp only [hsx] at hc) <;> (try first | (exfalso; omega) | contradiction | (exfalso; simp [dec_eq] at hc; done))) | refine AW.ret ?_ | refine AW.exit ?_ | refine Then.ret ?_ | refine Then.exit ?_ | refine InB.ret ?_ | refine InB.here ?_ | refine InB.off rfl ?_ | refine Rnd.ret ?_ | refine Rnd.exit ?_ | refine AW.drawW mixed (by kernel_rfl) ?_))
  · refine Rnd.norm (i + 1) (Le.cut 4 (by rw [← take_set T ti81.zero f.length i hT h0 (by assumption)]; rfl) (by repeat' (first | exact trivial | refine ⟨rfl, ?_⟩)) rfl (by simp only [List.all_cons, List.all_nil, Bool.and_true, Bool.and_eq_true]; exact ⟨all_rows _ _ _ (all_im hTi _), rfl, rfl, rfl⟩) (Nat.zero_le _)) ⟨by omega, by omega⟩ (by omega)
  · have e : T.take i.toNat ++ List.replicate (f.length - i.toNat) ti81.zero = T := by
      rw [take_end (by omega), show f.length - i.toNat = 0 by omega]; simp
    refine RQ.ret rfl ?_
    rw [e, hTe]
    exact fzS (f := f) (id := 0) rfl
theorem all_c (f g : List Node) (l : List Change) (hf : Fit f) (hr : rightP f) (h0 : 0 < f.length) (hl : l.length ≤ 4096) (hch : Chain f l g) : PureC Tryz.prog 12 [fav f, .imm (.sl (l.map Change.iv))] (.tup [fav g, iav l.length, iav 0]) := by
  have hml : (l.map Change.iv).length = l.length := List.length_map _
  refine PureC.mk tabs Tryz.func12 47 [.cell 4 24, .tmp 5, .tmp 6] rfl rfl rfl rfl rfl ?_; intro w0 X
  (repeat' (first | ((with_reducible show AL _ _ _ _ _); first | (refine AL.step tabs rfl ?_; try dsimp only [len, List.nil_append, List.cons_append]) | refine AL.op rfl (OpOK.call rfl rfl rfl rfl (pure_true (right_c f hf) hr) rfl) ?_ | refine AL.op rfl (OpOK.call rfl rfl rfl rfl (copyP_c f hf h0) rfl) ?_ | refine AL.nil ?_ | (refine AL.op rfl (OpOK.ari64 rfl rfl rfl rfl rfl (by omega) (by omega)) ?_) | (refine AL.op rfl (OpOK.index_map tabs rfl rfl rfl rfl rfl rfl rfl (fun _ => rfl) (by decide) (by omega) (by omega)) ?_)) | refine AW.seq ?_ | refine AW.region ?_ | refine Then.norm ?_ | refine AW.skip ?_ | refine AW.block ?_ | refine InB.norm ?_ | refine AW.condT rfl ?_ | refine AW.condF rfl ?_ | (refine AW.cond rfl (fun hc => ?_) (fun hc => ?_) <;> (try simp only [hsx] at hc) <;> (try first | (exfalso; omega) | contradiction | (exfalso; simp [dec_eq] at hc; done))) | refine AW.ret ?_ | refine AW.exit ?_ | refine Then.ret ?_ | refine Then.exit ?_ | refine InB.ret ?_ | refine InB.here ?_ | refine InB.off rfl ?_ | refine Rnd.ret ?_ | refine Rnd.exit ?_))
  all_goals first
    | (exfalso; omega)
    | skip
  refine AW.loop (α := List Node × Int) (fun y => ⟨[(1, .imm (.sl (l.map Change.iv))), (4, .ptr 1 1 0 0), (7, .ptr 2 1 0 0), (24, .imm (.sl (l.map Change.iv))), (25, iav (l.map Change.iv).length), (26, iav y.2)], [⟨24, 1, [[.imm (.sl (f.map Node.iv))]]⟩, ⟨24, 1, [[.nils]]⟩, ⟨24, 1, [[.imm (.sl (y.1.map Node.iv))]]⟩]⟩) (fun y => 0 ≤ y.2 ∧ y.2 ≤ l.length ∧ Chain y.1 (l.drop y.2.toNat) g) (fun y => (l.length - y.2).toNat) (f, 0) (Le.cut 3 rfl (by repeat' (first | exact trivial | refine ⟨rfl, ?_⟩)) rfl rfl (Nat.zero_le _)) ⟨by simp, by simp, hch⟩ ?_
  rintro ⟨G, i⟩ ⟨h1, h2, h4⟩
  simp only at h1 h2 h4
  by_cases hi : i < l.length
  · rw [drop_next h1 hi] at h4
    obtain ⟨m, h5, h6⟩ := h4
    (repeat' (first | ((with_reducible show AL _ _ _ _ _); first | (refine AL.step tabs rfl ?_; try dsimp only [len, List.nil_append, List.cons_append]) | refine AL.op rfl (OpOK.call rfl rfl rfl rfl h5 rfl) ?_ | refine AL.nil ?_ | (refine AL.op rfl (OpOK.ari64 rfl rfl rfl rfl rfl (by omega) (by omega)) ?_) | (refine AL.op rfl (OpOK.index_map tabs rfl rfl rfl rfl rfl rfl rfl (fun _ => rfl) (by decide) (by omega) (by omega)) ?_)) | refine AW.seq ?_ | refine AW.region ?_ | refine Then.norm ?_ | refine AW.skip ?_ | refine AW.block ?_ | refine InB.norm ?_ | refine AW.condT rfl ?_ | refine AW.condF rfl ?_ | (refine AW.cond rfl (fun hc => ?_) (fun hc => ?_) <;> (try simp only [hsx] at hc) <;> (try first | (exfalso; omega) | contradiction | (exfalso; simp [dec_eq] at hc; done))) | refine AW.ret ?_ | refine AW.exit ?_ | refine Then.ret ?_ | refine Then.exit ?_ | refine InB.ret ?_ | refine InB.here ?_ | refine InB.off rfl ?_ | refine Rnd.ret ?_ | refine Rnd.exit ?_))
    all_goals first
      | (exfalso; omega)
      | (refine Rnd.norm (m, i + 1) (Le.cut 3 rfl (by repeat' (first | exact trivial | refine ⟨rfl, ?_⟩)) rfl rfl (Nat.zero_le _)) ⟨by simp only; omega, by simp only; omega, h6⟩ (by simp only; omega))
  · rw [drop_end (by omega)] at h4
    have e : G = g := h4
    subst e
    (repeat' (first | ((with_reducible show AL _ _ _ _ _); first | (refine AL.step tabs rfl ?_; try dsimp only [len, List.nil_append, List.cons_append]) | refine AL.nil ?_ | (refine AL.op rfl (OpOK.ari64 rfl rfl rfl rfl rfl (by omega) (by omega)) ?_) | (refine AL.op rfl (OpOK.index_map tabs rfl rfl rfl rfl rfl rfl rfl (fun _ => rfl) (by decide) (by omega) (by omega)) ?_)) | refine AW.seq ?_ | refine AW.region ?_ | refine Then.norm ?_ | refine AW.skip ?_ | refine AW.block ?_ | refine InB.norm ?_ | refine AW.condT rfl ?_ | refine AW.condF rfl ?_ | (refine AW.cond rfl (fun hc => ?_) (fun hc => ?_) <;> (try simp only [hsx] at hc) <;> (try first | (exfalso; omega) | contradiction | (exfalso; simp [dec_eq] at hc; done))) | refine AW.ret ?_ | refine AW.exit ?_ | refine Then.ret ?_ | refine Then.exit ?_ | refine InB.ret ?_ | refine InB.here ?_ | refine InB.off rfl ?_ | refine Rnd.ret ?_ | refine Rnd.exit ?_))
    all_goals first
      | (exfalso; omega)
      | (rw [← hml]; exact RQ.fin rfl rfl rfl)
end Go.Proofs.YtjjdabihnmilgaaGreat.A
namespace Go.Proofs.YtjjdabihnmilgaaGreat.A
set_option linter.unusedVariables false
set_option linter.unusedSimpArgs false
set_option maxRecDepth 100000
set_option maxHeartbeats 4000000
theorem rNode_c (f : List Node) (h : Int) (hl : f.length ≤ 1000000000) : PureC Tryz.prog 115 [fav f, iav h] (.tup [(nodeAt f h).av, bav (inB f h)]) := by
  unfold nodeAt inB
  refine PureC.mk tabs Tryz.func115 22 [.cell 4 81, .tmp 5] rfl rfl rfl rfl rfl ?_; intro w0 X
  (repeat' (first | ((with_reducible show AL _ _ _ _ _); first | (refine AL.step tabs rfl ?_; try dsimp only [len, List.nil_append, List.cons_append]) | refine AL.nil ?_ | (refine AL.gsplitE rfl rfl rfl (fun hc => ?_) (fun hc => ?_) <;> (fail_if_success (exact absurd hc (by decide))) <;> (try simp only [hsx] at hc) <;> (try first | (exfalso; omega) | contradiction | (exfalso; simp [dec_eq] at hc; done))) | (refine AL.op rfl (OpOK.ari64 rfl rfl rfl rfl rfl (by omega) (by omega)) ?_) | (refine AL.op rfl (OpOK.index_map tabs rfl rfl rfl rfl rfl rfl rfl (fun _ => rfl) (by decide) (by omega) (by omega)) ?_)) | refine AW.seq ?_ | refine AW.region ?_ | refine Then.norm ?_ | refine AW.skip ?_ | refine AW.condT rfl ?_ | refine AW.condF rfl ?_ | (refine AW.cond rfl (fun hc => ?_) (fun hc => ?_) <;> (try simp only [hsx] at hc) <;> (try first | (exfalso; omega) | contradiction | (exfalso; simp [dec_eq] at hc; done))) | refine AW.ret ?_ | refine Then.ret ?_))
  · rw [if_neg (by omega), show decide (1 ≤ h ∧ h ≤ f.length) = false by simp; omega]
    exact RQ.fin rfl rfl rfl
  · rw [if_neg (by omega), show decide (1 ≤ h ∧ h ≤ f.length) = false by simp; omega]
    exact RQ.fin rfl rfl rfl
  · rw [if_pos (by omega), show decide (1 ≤ h ∧ h ≤ f.length) = true by simp; omega]
    exact RQ.fin rfl rfl rfl
theorem rKind_c (f : List Node) (h : Int) (hl : f.length ≤ 1000000000) : PureC Tryz.prog 186 [fav f, iav h] (kav (nodeAt f h).kind) := by
  refine PureC.mk tabs Tryz.func186 15 [.tmp 4] rfl rfl rfl rfl rfl ?_; intro w0 X
  (repeat' (first | ((with_reducible show AL _ _ _ _ _); first | (refine AL.step tabs rfl ?_; try dsimp only [len, List.nil_append, List.cons_append]) | refine AL.op rfl (OpOK.call rfl rfl rfl rfl (rNode_c _ _ hl) rfl) ?_ | refine AL.nil ?_) | refine AW.seq ?_ | refine AW.region ?_ | refine Then.norm ?_ | refine AW.skip ?_ | refine AW.ret ?_ | refine Then.ret ?_))
  exact RQ.fin rfl rfl rfl
theorem rAbove_c (n : Node) : PureC Tryz.prog 188 [n.av] (iav (aboveOf n)) := by
  unfold aboveOf
  refine PureC.mk tabs Tryz.func188 10 [.tmp 2] rfl rfl rfl rfl rfl ?_; intro w0 X
  (repeat' (first | ((with_reducible show AL _ _ _ _ _); first | (refine AL.step tabs rfl ?_; try dsimp only [len, List.nil_append, List.cons_append]) | refine AL.nil ?_) | refine AW.seq ?_ | refine AW.region ?_ | refine Then.norm ?_ | refine AW.skip ?_ | refine AW.condT rfl ?_ | refine AW.condF rfl ?_ | (refine AW.cond rfl (fun hc => ?_) (fun hc => ?_) <;> (try simp only [hsx] at hc) <;> (try first | (exfalso; omega) | contradiction | (exfalso; simp [dec_eq] at hc; done))) | refine AW.ret ?_ | refine Then.ret ?_))
  · rw [if_pos hc]; exact RQ.fin rfl rfl rfl
  · rw [if_neg hc]; exact RQ.fin rfl rfl rfl
def hasD (k : Int) : Prop := k = 3 ∨ k = 4 ∨ k = 7 ∨ k = 8
theorem rHasData_c (k : Int) : PureC Tryz.prog 116 [kav k] (bav (dec (hasD k))) := by
  refine PureC.mk tabs Tryz.func116 17 [.tmp 2] rfl rfl rfl rfl rfl ?_; intro w0 X
  (repeat' (first | ((with_reducible show AL _ _ _ _ _); first | (refine AL.step tabs rfl ?_; try dsimp only [len, List.nil_append, List.cons_append]) | refine AL.nil ?_ | (refine AL.gsplitE rfl rfl rfl (fun hc => ?_) (fun hc => ?_) <;> (fail_if_success (exact absurd hc (by decide))) <;> (try simp only [hsx] at hc) <;> (try first | (exfalso; omega) | contradiction | (exfalso; simp [dec_eq] at hc; done)))) | refine AW.seq ?_ | refine AW.region ?_ | refine Then.norm ?_ | refine AW.skip ?_ | refine AW.ret ?_ | refine Then.ret ?_))
  all_goals (refine RQ.fin rfl rfl (congrArg bav ?_); rw [Bool.eq_iff_iff]; simp only [hasD, dec_true]; grind)
def hasK (k : Int) : Prop := k = 1 ∨ k = 9 ∨ k = 11 ∨ k = 12
theorem rHasKids_c (k : Int) : PureC Tryz.prog 184 [kav k] (bav (dec (hasK k))) := by
  refine PureC.mk tabs Tryz.func184 17 [.tmp 2] rfl rfl rfl rfl rfl ?_; intro w0 X
  (repeat' (first | ((with_reducible show AL _ _ _ _ _); first | (refine AL.step tabs rfl ?_; try dsimp only [len, List.nil_append, List.cons_append]) | refine AL.nil ?_ | (refine AL.gsplitE rfl rfl rfl (fun hc => ?_) (fun hc => ?_) <;> (fail_if_success (exact absurd hc (by decide))) <;> (try simp only [hsx] at hc) <;> (try first | (exfalso; omega) | contradiction | (exfalso; simp [dec_eq] at hc; done)))) | refine AW.seq ?_ | refine AW.region ?_ | refine Then.norm ?_ | refine AW.skip ?_ | refine AW.ret ?_ | refine Then.ret ?_))
  all_goals (refine RQ.fin rfl rfl (congrArg bav ?_); rw [Bool.eq_iff_iff]; simp only [hasK, dec_true]; grind)
def knownP (k : Int) : Prop := hasD k ∨ hasK k ∨ k = 10
theorem rKnown_c (k : Int) : PureC Tryz.prog 181 [kav k] (bav (dec (knownP k))) := by
  refine PureC.mk tabs Tryz.func181 13 [.tmp 2] rfl rfl rfl rfl rfl ?_; intro w0 X
  (repeat' (first | ((with_reducible show AL _ _ _ _ _); first | (refine AL.step tabs rfl ?_; try dsimp only [len, List.nil_append, List.cons_append]) | refine AL.op rfl (OpOK.call rfl rfl rfl rfl (rHasData_c k) rfl) ?_ | refine AL.op rfl (OpOK.call rfl rfl rfl rfl (rHasKids_c k) rfl) ?_ | refine AL.nil ?_ | (refine AL.gsplitE rfl rfl rfl (fun hc => ?_) (fun hc => ?_) <;> (fail_if_success (exact absurd hc (by decide))) <;> (try simp only [hsx] at hc) <;> (try first | (exfalso; omega) | contradiction | (exfalso; simp [dec_eq] at hc; done)))) | refine AW.seq ?_ | refine AW.region ?_ | refine Then.norm ?_ | refine AW.skip ?_ | refine AW.ret ?_ | refine Then.ret ?_))
  all_goals (refine RQ.fin rfl rfl (congrArg bav ?_); rw [Bool.eq_iff_iff]; simp only [knownP, dec_true, Bool.not_eq_true', dec_false] at *; grind)
def rNamedP (n : Name) : Prop := n.lc ≠ es ∧ n.sp.size ≤ 1024 ∧ n.pf.size ≤ 1024 ∧ n.lc.size ≤ 1024 ∧ (n.pf = es ∨ n.sp ≠ es)
theorem rNamed_c (n : Name) : PureC Tryz.prog 183 [n.av] (bav (dec (rNamedP n))) := by
  refine PureC.mk tabs Tryz.func183 34 [.tmp 2] rfl rfl rfl rfl rfl ?_; intro w0 X
  (repeat' (first | ((with_reducible show AL _ _ _ _ _); first | (refine AL.step tabs rfl ?_; try dsimp only [len, List.nil_append, List.cons_append]) | refine AL.nil ?_ | (refine AL.gsplitE rfl rfl rfl (fun hc => ?_) (fun hc => ?_) <;> (fail_if_success (exact absurd hc (by decide))) <;> (try simp only [hsx] at hc) <;> (try first | (exfalso; omega) | contradiction | (exfalso; simp [dec_eq] at hc; done)))) | refine AW.seq ?_ | refine AW.region ?_ | refine Then.norm ?_ | refine AW.skip ?_ | refine AW.ret ?_ | refine Then.ret ?_))
  all_goals (refine RQ.fin rfl rfl (congrArg bav ?_); rw [Bool.eq_iff_iff]; simp only [rNamedP, es, dec_true, Bool.not_eq_true', dec_false] at *; grind)
theorem rCount_c (l : List Int) (h : Int) (hl : l.length ≤ 1000000000) : PureC Tryz.prog 185 [.imm (.sl (l.map i64)), iav h] (iav (cntB l h)) := by
  refine PureC.mk tabs Tryz.func185 21 [.tmp 4] rfl rfl rfl rfl rfl ?_; intro w0 X
  (repeat' (first | ((with_reducible show AL _ _ _ _ _); first | (refine AL.step tabs rfl ?_; try dsimp only [len, List.nil_append, List.cons_append]) | refine AL.nil ?_ | (refine AL.op rfl (OpOK.ari64 rfl rfl rfl rfl rfl (by omega) (by omega)) ?_) | (refine AL.op rfl (OpOK.index_map tabs rfl rfl rfl rfl rfl rfl rfl (fun _ => rfl) (by decide) (by omega) (by omega)) ?_)) | fail | refine AW.seq ?_ | refine AW.region ?_ | refine Then.norm ?_ | refine AW.skip ?_ | refine AW.block ?_ | refine InB.norm ?_ | refine AW.condT rfl ?_ | refine AW.condF rfl ?_ | (refine AW.cond rfl (fun hc => ?_) (fun hc => ?_) <;> (try simp only [hsx] at hc) <;> (try first | (exfalso; omega) | contradiction | (exfalso; simp [dec_eq] at hc; done))) | refine AW.ret ?_ | refine AW.exit ?_ | refine Then.ret ?_ | refine Then.exit ?_ | refine InB.ret ?_ | refine InB.here ?_ | refine InB.off rfl ?_ | refine Rnd.ret ?_ | refine Rnd.exit ?_))
  refine AW.loop (α := Int) (fun i => ⟨[(1, iav h), (5, iav (cntB (l.take i.toNat) h)), (8, .imm (.sl (l.map i64))), (9, iav (l.map i64).length), (10, iav i)], []⟩) (fun i => 0 ≤ i ∧ i ≤ l.length) (fun i => (l.length - i).toNat) 0 (Le.cut 0 rfl ⟨rfl, rfl, rfl, rfl, rfl, trivial⟩ rfl rfl (Nat.zero_le _)) ⟨by omega, by omega⟩ ?_
  intro i ⟨h0, h1⟩
  have hb : cntB (l.take i.toNat) h ≤ l.length := Nat.le_trans List.countP_le_length (by simp; omega)
  (repeat' (first | ((with_reducible show AL _ _ _ _ _); first | (refine AL.step tabs rfl ?_; try dsimp only [len, List.nil_append, List.cons_append]) | refine AL.nil ?_ | (refine AL.op rfl (OpOK.ari64 rfl rfl rfl rfl rfl (by omega) (by omega)) ?_) | (refine AL.op rfl (OpOK.index_map tabs rfl rfl rfl rfl rfl rfl rfl (fun _ => rfl) (by decide) (by omega) (by omega)) ?_)) | refine AW.seq ?_ | refine AW.region ?_ | refine Then.norm ?_ | refine AW.skip ?_ | refine AW.block ?_ | refine InB.norm ?_ | refine AW.condT rfl ?_ | refine AW.condF rfl ?_ | (refine AW.cond rfl (fun hc => ?_) (fun hc => ?_) <;> (try simp only [hsx] at hc) <;> (try first | (exfalso; omega) | contradiction | (exfalso; simp [dec_eq] at hc; done))) | refine AW.ret ?_ | refine AW.exit ?_ | refine Then.ret ?_ | refine Then.exit ?_ | refine InB.ret ?_ | refine InB.here ?_ | refine InB.off rfl ?_ | refine Rnd.ret ?_ | refine Rnd.exit ?_))
  · have e : cntB (l.take (i + 1).toNat) h = cntB (l.take i.toNat) h + 1 := by
      rw [take_next h0 (by assumption)]
      unfold cntB
      rw [List.countP_append]
      simp [hc]
    refine Rnd.norm (i + 1) (Le.cut 0 rfl ⟨rfl, by simp only [e]; rfl, rfl, rfl, rfl, trivial⟩ rfl rfl (Nat.zero_le _)) ⟨by omega, by omega⟩ (by omega)
  · have e : cntB (l.take (i + 1).toNat) h = cntB (l.take i.toNat) h := by
      rw [take_next h0 (by assumption)]
      unfold cntB
      rw [List.countP_append]
      simp [hc]
    refine Rnd.norm (i + 1) (Le.cut 0 rfl ⟨rfl, by simp only [e]; rfl, rfl, rfl, rfl, trivial⟩ rfl rfl (Nat.zero_le _)) ⟨by omega, by omega⟩ (by omega)
  · rw [take_end hc]; exact RQ.fin rfl rfl rfl
end Go.Proofs.YtjjdabihnmilgaaGreat.A
namespace Go.Proofs.YtjjdabihnmilgaaGreat.A
set_option linter.unusedVariables false
set_option linter.unusedSimpArgs false
set_option maxRecDepth 100000
set_option maxHeartbeats 4000000
def keyP (y : Attr) (n : Name) : Prop := y.name.sp = n.sp ∧ y.name.lc = n.lc
noncomputable def findGo (n : Name) : List Attr → Int → Int
  | [], _ => -1
  | y :: r, i => if dec (keyP y n) = true then i else findGo n r (i + 1)
theorem rFind_c (l : List Attr) (n : Name) (hl : l.length ≤ 1000000000) : PureC Tryz.prog 213 [.imm (.sl (l.map Attr.iv)), n.av] (iav (findGo n l 0)) := by
  refine PureC.mk tabs Tryz.func213 30 [.tmp 4] rfl rfl rfl rfl rfl ?_; intro w0 X
  (repeat' (first | ((with_reducible show AL _ _ _ _ _); first | (refine AL.step tabs rfl ?_; try dsimp only [len, List.nil_append, List.cons_append]) | refine AL.nil ?_ | (refine AL.gsplitE rfl rfl rfl (fun hc => ?_) (fun hc => ?_) <;> (fail_if_success (exact absurd hc (by decide))) <;> (try simp only [hsx] at hc) <;> (try first | (exfalso; omega) | contradiction | (exfalso; simp [dec_eq] at hc; done))) | (refine AL.op rfl (OpOK.ari64 rfl rfl rfl rfl rfl (by omega) (by omega)) ?_) | (refine AL.op rfl (OpOK.index_map tabs rfl rfl rfl rfl rfl rfl rfl (fun _ => rfl) (by decide) (by omega) (by omega)) ?_)) | fail | refine AW.seq ?_ | refine AW.region ?_ | refine Then.norm ?_ | refine AW.skip ?_ | refine AW.block ?_ | refine InB.norm ?_ | refine AW.condT rfl ?_ | refine AW.condF rfl ?_ | (refine AW.cond rfl (fun hc => ?_) (fun hc => ?_) <;> (try simp only [hsx] at hc) <;> (try first | (exfalso; omega) | contradiction | (exfalso; simp [dec_eq] at hc; done))) | refine AW.ret ?_ | refine AW.exit ?_ | refine Then.ret ?_ | refine Then.exit ?_ | refine InB.ret ?_ | refine InB.here ?_ | refine InB.off rfl ?_ | refine Rnd.ret ?_ | refine Rnd.exit ?_))
  refine AW.loop (α := Int) (fun i => ⟨[(3, .ptr 0 1 0 0), (7, .imm (.sl (l.map Attr.iv))), (8, iav (l.map Attr.iv).length), (9, iav i)], [⟨75, 3, [n.iv.map .imm]⟩]⟩) (fun i => 0 ≤ i ∧ i ≤ l.length ∧ findGo n (l.drop i.toNat) i = findGo n l 0) (fun i => (l.length - i).toNat) 0 (Le.cut 1 rfl (by repeat' (first | exact trivial | refine ⟨rfl, ?_⟩)) rfl rfl (Nat.zero_le _)) ⟨by omega, by omega, rfl⟩ ?_
  intro i ⟨h0, h1, h2⟩
  (repeat' (first | ((with_reducible show AL _ _ _ _ _); first | (refine AL.step tabs rfl ?_; try dsimp only [len, List.nil_append, List.cons_append]) | refine AL.nil ?_ | (refine AL.gsplitE rfl rfl rfl (fun hc => ?_) (fun hc => ?_) <;> (fail_if_success (exact absurd hc (by decide))) <;> (try simp only [hsx] at hc) <;> (try first | (exfalso; omega) | contradiction | (exfalso; simp [dec_eq] at hc; done))) | (refine AL.op rfl (OpOK.ari64 rfl rfl rfl rfl rfl (by omega) (by omega)) ?_) | (refine AL.op rfl (OpOK.index_map tabs rfl rfl rfl rfl rfl rfl rfl (fun _ => rfl) (by decide) (by omega) (by omega)) ?_)) | refine AW.seq ?_ | refine AW.region ?_ | refine Then.norm ?_ | refine AW.skip ?_ | refine AW.block ?_ | refine InB.norm ?_ | refine AW.condT rfl ?_ | refine AW.condF rfl ?_ | (refine AW.cond rfl (fun hc => ?_) (fun hc => ?_) <;> (try simp only [hsx] at hc) <;> (try first | (exfalso; omega) | contradiction | (exfalso; simp [dec_eq] at hc; done))) | refine AW.ret ?_ | refine AW.exit ?_ | refine Then.ret ?_ | refine Then.exit ?_ | refine InB.ret ?_ | refine InB.here ?_ | refine InB.off rfl ?_ | refine Rnd.ret ?_ | refine Rnd.exit ?_))
  all_goals first
    | (rw [← h2, drop_next h0 (by assumption), findGo, if_pos (by rw [dec_true]; unfold keyP; simp_all; done)]; exact RQ.fin rfl rfl rfl)
    | (refine Rnd.norm (i + 1) (Le.cut 1 rfl (by repeat' (first | exact trivial | refine ⟨rfl, ?_⟩)) rfl rfl (Nat.zero_le _)) ⟨by omega, by omega, ?_⟩ (by omega); rw [← h2, drop_next h0 (by assumption), findGo, if_neg (by rw [dec_true]; unfold keyP; simp_all; done)]; done)
    | (rw [← h2, drop_end (by assumption)]; exact RQ.fin rfl rfl rfl)
end Go.Proofs.YtjjdabihnmilgaaGreat.A
namespace Go.Proofs.YtjjdabihnmilgaaGreat.A
set_option linter.unusedVariables false
set_option linter.unusedSimpArgs false
set_option maxRecDepth 100000
set_option maxHeartbeats 4000000
section
variable {C : Cx} {s : St} {o : Oper} {T : List (Nat × TI)} {l : List Oper}
theorem LS.take_map (hT : TsOK C.P T) (hw : awant l s o = some true) (hd : dok C.nt o.dst = true) {t e : TypeId} {x z : Operand} (ho : o.op = .slice t x none (some z) none) {i ie : TI} (hi1 : look T t = some i) (hk : i.kd = .sl e) (hie : look T e = some ie) {α : Type} {f : α → List IV} {xs : List α} (hx : s.ev x = some (.imm (.sl (xs.map f))))
    {h : Int} (hz : s.ev z = some (.imm (.int .i64 h))) (hsz : ∀ q, (f q).length = ie.sz) (h1 : 0 ≤ h) (h2 : h ≤ xs.length) : LS C l s o (mkFx l s o (.val (.imm (.sl ((xs.take h.toNat).map f)))) []) :=
  LS.quiet [] hw fun s' hl => by
    have := OpOK.cut_map (C := C) (l := 0) (h := h) hT hd ho hi1 hk hie ((hl.ev x (by rw [ho]; simp [Op.operands])).trans hx) rfl (by unfold bnd; simp only [(hl.ev z (by rw [ho]; simp [Op.operands])).trans hz]) hsz (Int.le_refl _) h1 h2
    simpa using this
end
noncomputable def rAttrGo (seen : List Attr) : List Attr → Bool
  | [] => true
  | a :: r => if dec (rNamedP a.name) = false then false else if 4096 < a.value.size then false else if 0 ≤ findGo a.name seen 0 then false else rAttrGo (seen ++ [a]) r
noncomputable def rAttrB (l : List Attr) : Bool := decide (l.length ≤ 64) && rAttrGo [] l
theorem rAttrs_c (l : List Attr) (hl : l.length ≤ 1000000000) : PureC Tryz.prog 182 [.imm (.sl (l.map Attr.iv))] (bav (rAttrB l)) := by
  refine PureC.mk tabs Tryz.func182 35 [.tmp 2] rfl rfl rfl rfl rfl ?_; intro w0 X
  (repeat' (first | ((with_reducible show AL _ _ _ _ _); first | (refine AL.step tabs rfl ?_; try dsimp only [len, List.nil_append, List.cons_append]) | refine AL.nil ?_ | (refine AL.gsplitE rfl rfl rfl (fun hc => ?_) (fun hc => ?_) <;> (fail_if_success (exact absurd hc (by decide))) <;> (try simp only [hsx] at hc) <;> (try first | (exfalso; omega) | contradiction | (exfalso; simp [dec_eq] at hc; done))) | (refine AL.op rfl (OpOK.ari64 rfl rfl rfl rfl rfl (by omega) (by omega)) ?_) | (refine AL.op rfl (OpOK.index_map tabs rfl rfl rfl rfl rfl rfl rfl (fun _ => rfl) (by decide) (by omega) (by omega)) ?_)) | ((with_reducible show DQ _ _ _ _ _ _); first | refine DQ.stepc (LS.val tabs rfl rfl rfl) rfl rfl rfl rfl rfl ?_ | refine DQ.stepc (LS.skip rfl rfl) rfl rfl rfl rfl rfl ?_ | refine DQ.nilM (by kernel_rfl) ?_ | refine DQ.stepc (LS.ari64 rfl rfl rfl rfl rfl rfl (by omega) (by omega)) rfl rfl rfl rfl rfl ?_ | refine DQ.stepc (LS.index_map tabs rfl rfl rfl rfl rfl rfl rfl rfl (fun _ => rfl) (by decide) (by omega) (by omega)) rfl rfl rfl rfl rfl ?_ | (refine DQ.gsplitE rfl rfl rfl (fun hc => ?_) (fun hc => ?_) <;> (fail_if_success (exact absurd hc (by decide))) <;> (try simp only [hsx] at hc) <;> (try first | (exfalso; omega) | contradiction | (exfalso; simp [dec_eq] at hc; done)))) | fail | refine AW.seq ?_ | refine AW.region ?_ | refine Then.norm ?_ | refine AW.skip ?_ | refine AW.block ?_ | refine InB.norm ?_ | refine AW.condT rfl ?_ | refine AW.condF rfl ?_ | (refine AW.cond rfl (fun hc => ?_) (fun hc => ?_) <;> (try simp only [hsx] at hc) <;> (try first | (exfalso; omega) | contradiction | (exfalso; simp [dec_eq] at hc; done))) | refine AW.ret ?_ | refine AW.exit ?_ | refine Then.ret ?_ | refine Then.exit ?_ | refine InB.ret ?_ | refine InB.here ?_ | refine InB.off rfl ?_ | refine Rnd.ret ?_ | refine Rnd.exit ?_ | refine AW.drawW mixed (by kernel_rfl) ?_))
  · refine RQ.fin rfl rfl (congrArg bav ?_)
    unfold rAttrB
    rw [show decide (l.length ≤ 64) = false by simp; omega]; rfl
  refine AW.loop (α := Int) (fun i => ⟨[(0, .imm (.sl (l.map Attr.iv))), (8, .imm (.sl (l.map Attr.iv))), (9, iav (l.map Attr.iv).length), (10, iav i)], []⟩) (fun i => 0 ≤ i ∧ i ≤ l.length ∧ rAttrGo (l.take i.toNat) (l.drop i.toNat) = rAttrGo [] l) (fun i => (l.length - i).toNat) 0 (Le.cut 0 rfl (by repeat' (first | exact trivial | refine ⟨rfl, ?_⟩)) rfl rfl (Nat.zero_le _)) ⟨by omega, by omega, rfl⟩ ?_
  intro i ⟨h0, h1, h2⟩
  (repeat' (first | ((with_reducible show AL _ _ _ _ _); first | (refine AL.step tabs rfl ?_; try dsimp only [len, List.nil_append, List.cons_append]) | refine AL.nil ?_ | (refine AL.gsplitE rfl rfl rfl (fun hc => ?_) (fun hc => ?_) <;> (fail_if_success (exact absurd hc (by decide))) <;> (try simp only [hsx] at hc) <;> (try first | (exfalso; omega) | contradiction | (exfalso; simp [dec_eq] at hc; done))) | (refine AL.op rfl (OpOK.ari64 rfl rfl rfl rfl rfl (by omega) (by omega)) ?_) | (refine AL.op rfl (OpOK.index_map tabs rfl rfl rfl rfl rfl rfl rfl (fun _ => rfl) (by decide) (by omega) (by omega)) ?_)) | ((with_reducible show DQ _ _ _ _ _ _); first | refine DQ.stepc (LS.call rfl rfl rfl rfl rfl (rNamed_c (atI l i).name) rfl) rfl rfl rfl rfl rfl ?_ | refine DQ.stepc (LS.take_map (i := ti77) (ie := ti176) (e := 176) (f := Attr.iv) (xs := l) (h := i) tabs rfl rfl rfl rfl rfl rfl rfl rfl (fun _ => rfl) h0 h1) rfl rfl rfl rfl rfl ?_ | refine DQ.stepc (LS.call rfl rfl rfl rfl rfl (rFind_c (l.take i.toNat) (atI l i).name (by simp; omega)) rfl) rfl rfl rfl rfl rfl ?_ | refine DQ.stepc (LS.val tabs rfl rfl rfl) rfl rfl rfl rfl rfl ?_ | refine DQ.stepc (LS.skip rfl rfl) rfl rfl rfl rfl rfl ?_ | refine DQ.nilM (by kernel_rfl) ?_ | refine DQ.stepc (LS.ari64 rfl rfl rfl rfl rfl rfl (by omega) (by omega)) rfl rfl rfl rfl rfl ?_ | refine DQ.stepc (LS.index_map tabs rfl rfl rfl rfl rfl rfl rfl rfl (fun _ => rfl) (by decide) (by omega) (by omega)) rfl rfl rfl rfl rfl ?_ | (refine DQ.gsplitE rfl rfl rfl (fun hc => ?_) (fun hc => ?_) <;> (fail_if_success (exact absurd hc (by decide))) <;> (try simp only [hsx] at hc) <;> (try first | (exfalso; omega) | contradiction | (exfalso; simp [dec_eq] at hc; done)))) | refine AW.seq ?_ | refine AW.region ?_ | refine Then.norm ?_ | refine AW.skip ?_ | refine AW.block ?_ | refine InB.norm ?_ | refine AW.condT rfl ?_ | refine AW.condF rfl ?_ | (refine AW.cond rfl (fun hc => ?_) (fun hc => ?_) <;> (try simp only [hsx] at hc) <;> (try first | (exfalso; omega) | contradiction | (exfalso; simp [dec_eq] at hc; done))) | refine AW.ret ?_ | refine AW.exit ?_ | refine Then.ret ?_ | refine Then.exit ?_ | refine InB.ret ?_ | refine InB.here ?_ | refine InB.off rfl ?_ | refine Rnd.ret ?_ | refine Rnd.exit ?_ | refine AW.drawW mixed (by kernel_rfl) ?_))
  all_goals first
    | (refine RQ.fin rfl rfl (congrArg bav ?_); unfold rAttrB; rw [← h2, drop_next h0 (by assumption), rAttrGo]; simp_all [dec_false]; done)
    | (refine RQ.fin rfl rfl (congrArg bav ?_); unfold rAttrB; rw [← h2, drop_next h0 (by assumption), rAttrGo]; simp_all [dec_false]; intros; omega)
    | (refine Rnd.norm (i + 1) (Le.cut 0 rfl (by repeat' (first | exact trivial | refine ⟨rfl, ?_⟩)) rfl rfl (Nat.zero_le _)) ⟨by omega, by omega, ?_⟩ (by omega); rw [← h2, drop_next h0 (by assumption), rAttrGo, take_next h0 (by assumption), if_neg (by simp_all [dec_false]), if_neg (by omega), if_neg (by omega)]; done)
    | (refine RQ.fin rfl rfl (congrArg bav ?_); unfold rAttrB; rw [← h2, drop_end (by assumption), rAttrGo]; simp; omega)
end Go.Proofs.YtjjdabihnmilgaaGreat.A
namespace Go.Proofs.YtjjdabihnmilgaaGreat.A
set_option linter.unusedVariables false
set_option linter.unusedSimpArgs false
set_option maxRecDepth 100000
set_option maxHeartbeats 4000000
def p32 (n : Node) : Prop := knownP n.kind ∧ n.pub.size ≤ 1024 ∧ n.sys.size ≤ 1024 ∧ n.data.length ≤ 16384 ∧ rAttrB n.attrs = true
def p66 (n : Node) : Prop := (n.name.sp = es ∧ n.name.pf = es) ∧ n.name.lc ≠ es ∧ n.name.lc.size ≤ 1024
def p105 (n : Node) : Prop := (n.kind ≠ 10 → n.pub = es ∧ n.sys = es) ∧ (¬ hasD n.kind → n.data.length = 0) ∧ (¬ hasK n.kind → n.kids.length = 0)
def p126 (n : Node) : Prop := (n.kind ≠ 1 → n.attrs.length = 0 ∧ n.shadow = 0) ∧ (n.kind ≠ 9 → n.html = false)
def p136 (n : Node) : Prop := n.mode = 1 ∨ n.mode = 2
def p148 (n : Node) : Prop := n.mode = 0 ∧ n.manual = false ∧ n.host = 0
def rMadeP (n : Node) : Prop :=
  p32 n ∧ (n.kind = 1 → rNamedP n.name) ∧ (n.kind ≠ 1 → (n.kind = 10 ∨ n.kind = 7) → p66 n) ∧ (n.kind ≠ 1 → n.kind ≠ 10 → n.kind ≠ 7 → n.name.sp = es ∧ n.name.pf = es ∧ n.name.lc = es) ∧
  p105 n ∧ p126 n ∧ (n.kind = 12 → p136 n) ∧ (n.kind ≠ 12 → p148 n) ∧ (n.parent = 0 ∨ (n.kind ≠ 9 ∧ n.kind ≠ 11 ∧ n.kind ≠ 12))
theorem rMade_c (n : Node) (hd : n.data.length ≤ 1000000000) (ha : n.attrs.length ≤ 1000000000) (hk : n.kids.length ≤ 1000000000) : PureC Tryz.prog 133 [n.av] (bav (dec (rMadeP n))) := by
  refine PureC.mk tabs Tryz.func133 164 [.tmp 2] rfl rfl rfl rfl rfl ?_; intro w0 X
  (repeat' (first | ((with_reducible show AL _ _ _ _ _); first | (refine AL.step tabs rfl ?_; try dsimp only [len, List.nil_append, List.cons_append]) | refine AL.op rfl (OpOK.call rfl rfl rfl rfl (rKnown_c n.kind) rfl) ?_ | refine AL.op rfl (OpOK.call rfl rfl rfl rfl (rAttrs_c n.attrs ha) rfl) ?_ | refine AL.op rfl (OpOK.call rfl rfl rfl rfl (rNamed_c n.name) rfl) ?_ | refine AL.op rfl (OpOK.call rfl rfl rfl rfl (rHasData_c n.kind) rfl) ?_ | refine AL.op rfl (OpOK.call rfl rfl rfl rfl (rHasKids_c n.kind) rfl) ?_ | refine AL.nil ?_ | (refine AL.gsplitE rfl rfl rfl (fun hc => ?_) (fun hc => ?_) <;> (fail_if_success (exact absurd hc (by decide))) <;> (try simp only [hsx] at hc) <;> (try first | (exfalso; omega) | contradiction | (exfalso; simp [dec_eq] at hc; done))) | (refine AL.op rfl (OpOK.eqs rfl rfl rfl rfl eqt75 rfl rfl) ?_)) | refine AW.midc (t := 32) ⟨[(1, .ptr 0 1 0 0), (3, kav n.kind), (32, bav (dec (¬ p32 n)))], [⟨81, 16, [n.iv.map .imm]⟩]⟩ ?_ ?_ | refine AW.midc (t := 66) ⟨[(1, .ptr 0 1 0 0), (3, kav n.kind), (66, bav (dec (¬ p66 n)))], [⟨81, 16, [n.iv.map .imm]⟩]⟩ ?_ ?_ | refine AW.midc (t := 105) ⟨[(1, .ptr 0 1 0 0), (3, kav n.kind), (105, bav (dec (¬ p105 n)))], [⟨81, 16, [n.iv.map .imm]⟩]⟩ ?_ ?_ | refine AW.midc (t := 126) ⟨[(1, .ptr 0 1 0 0), (3, kav n.kind), (126, bav (dec (¬ p126 n)))], [⟨81, 16, [n.iv.map .imm]⟩]⟩ ?_ ?_ | refine AW.midc (t := 136) ⟨[(1, .ptr 0 1 0 0), (3, kav n.kind), (136, bav (dec (¬ p136 n)))], [⟨81, 16, [n.iv.map .imm]⟩]⟩ ?_ ?_ | refine AW.midc (t := 148) ⟨[(1, .ptr 0 1 0 0), (3, kav n.kind), (148, bav (dec (¬ p148 n)))], [⟨81, 16, [n.iv.map .imm]⟩]⟩ ?_ ?_ | refine AW.seq ?_ | refine AW.region ?_ | refine Then.norm ?_ | refine AW.skip ?_ | refine AW.block ?_ | refine InB.norm ?_ | refine AW.condT rfl ?_ | refine AW.condF rfl ?_ | (refine AW.cond rfl (fun hc => ?_) (fun hc => ?_) <;> (try simp only [hsx] at hc) <;> (try first | (exfalso; omega) | contradiction | (exfalso; simp [dec_eq] at hc; done))) | refine AW.ret ?_ | refine AW.exit ?_ | refine Then.ret ?_ | refine Then.exit ?_ | refine InB.ret ?_ | refine InB.here ?_ | refine InB.off rfl ?_))
  all_goals first
    | (refine RQ.fin rfl rfl (congrArg bav ?_); rw [Bool.eq_iff_iff]; simp only [Bool.and_eq_true, Bool.and_eq_false_iff, Bool.not_eq_true', dec_true, dec_false, not_true_eq_false, or_false, and_true] at *; simp only [rMadeP, es] at *; grind)
    | (refine RQ.fin rfl rfl (congrArg bav ?_); rw [Bool.eq_iff_iff]; simp only [rMadeP, dec_true, Bool.not_eq_true', dec_false, Bool.and_eq_true, Bool.or_eq_true]; grind)
    | (refine Mid.of (Le.cut 1 rfl ⟨rfl, rfl, get_bool rfl ?_, trivial⟩ rfl rfl (Nat.zero_le _)); rw [Bool.eq_iff_iff]; simp only [Bool.and_eq_true, Bool.and_eq_false_iff, Bool.not_eq_true', dec_true, dec_false, not_true_eq_false, or_false, and_true] at *; simp only [p32, p66, p105, p126, p136, p148, es] at *; grind)
    | (refine Mid.of (Le.cut 1 rfl ⟨rfl, rfl, get_bool rfl ?_, trivial⟩ rfl rfl (Nat.zero_le _)); rw [Bool.eq_iff_iff]; simp only [p32, p66, p105, p126, p136, p148, es, dec_true, Bool.not_eq_true', dec_false, Bool.and_eq_true, Bool.or_eq_true]; grind)
end Go.Proofs.YtjjdabihnmilgaaGreat.A
namespace Go.Proofs.YtjjdabihnmilgaaGreat.A
set_option linter.unusedVariables false
set_option linter.unusedSimpArgs false
set_option maxRecDepth 100000
set_option maxHeartbeats 4000000
theorem dec_dec' (p : Prop) [Decidable p] : dec p = decide p := dec_eq p
theorem rKids_c (f : List Node) (k : Int) (l : List Int) (hl : f.length ≤ 1000000000) (hk : l.length ≤ 1000000000) : PureC Tryz.prog 187 [fav f, kav k, .imm (.sl (l.map i64))] (bav (famGo (fun k => (nodeAt f k).kind) (dec (k = 9)) l 0 0)) := by
  refine PureC.mk tabs Tryz.func187 53 [.tmp 6] rfl rfl rfl rfl rfl ?_; intro w0 X
  (repeat' (first | ((with_reducible show AL _ _ _ _ _); first | (refine AL.step tabs rfl ?_; try dsimp only [len, List.nil_append, List.cons_append]) | refine AL.nil ?_ | (refine AL.gsplitE rfl rfl rfl (fun hc => ?_) (fun hc => ?_) <;> (fail_if_success (exact absurd hc (by decide))) <;> (try simp only [hsx] at hc) <;> (try first | (exfalso; omega) | contradiction | (exfalso; simp [dec_eq] at hc; done))) | (refine AL.op rfl (OpOK.ari64 rfl rfl rfl rfl rfl (by omega) (by omega)) ?_) | (refine AL.op rfl (OpOK.index_map tabs rfl rfl rfl rfl rfl rfl rfl (fun _ => rfl) (by decide) (by omega) (by omega)) ?_)) | fail | refine AW.seq ?_ | refine AW.region ?_ | refine Then.norm ?_ | refine AW.skip ?_ | refine AW.block ?_ | refine InB.norm ?_ | refine AW.condT rfl ?_ | refine AW.condF rfl ?_ | (refine AW.cond rfl (fun hc => ?_) (fun hc => ?_) <;> (try simp only [hsx] at hc) <;> (try first | (exfalso; omega) | contradiction | (exfalso; simp [dec_eq] at hc; done))) | refine AW.ret ?_ | refine AW.exit ?_ | refine Then.ret ?_ | refine Then.exit ?_ | refine InB.ret ?_ | refine InB.here ?_ | refine InB.off rfl ?_ | refine Rnd.ret ?_ | refine Rnd.exit ?_))
  refine AW.loop (α := Int × Int × Int) (fun x => ⟨[(1, kav k), (3, .ptr 0 1 0 0), (7, iav x.2.1), (8, iav x.2.2), (11, .imm (.sl (l.map i64))), (12, iav (l.map i64).length), (13, iav x.1)], [⟨24, 1, [[.imm (.sl (f.map Node.iv))]]⟩]⟩) (fun x => 0 ≤ x.1 ∧ x.1 ≤ l.length ∧ 0 ≤ x.2.1 ∧ x.2.1 ≤ x.1 ∧ 0 ≤ x.2.2 ∧ x.2.2 ≤ x.1 ∧ famGo (fun k => (nodeAt f k).kind) (dec (k = 9)) (l.drop x.1.toNat) x.2.1 x.2.2 = famGo (fun k => (nodeAt f k).kind) (dec (k = 9)) l 0 0) (fun x => (l.length - x.1).toNat) (0, 0, 0) (Le.cut 1 rfl (by repeat' (first | exact trivial | refine ⟨rfl, ?_⟩)) rfl rfl (Nat.zero_le _)) ⟨by simp, by simp, by simp, by simp, by simp, by simp, rfl⟩ ?_
  rintro ⟨i, e, d⟩ ⟨h0, h1, h3, h4, h5, h6, h2⟩
  simp only at h0 h1 h2 h3 h4 h5 h6
  (repeat' (first | ((with_reducible show AL _ _ _ _ _); first | (refine AL.step tabs rfl ?_; try dsimp only [len, List.nil_append, List.cons_append]) | refine AL.op rfl (OpOK.call rfl rfl rfl rfl (rKind_c f _ hl) rfl) ?_ | refine AL.nil ?_ | (refine AL.gsplitE rfl rfl rfl (fun hc => ?_) (fun hc => ?_) <;> (fail_if_success (exact absurd hc (by decide))) <;> (try simp only [hsx] at hc) <;> (try first | (exfalso; omega) | contradiction | (exfalso; simp [dec_eq] at hc; done))) | (refine AL.op rfl (OpOK.ari64 rfl rfl rfl rfl rfl (by omega) (by omega)) ?_) | (refine AL.op rfl (OpOK.index_map tabs rfl rfl rfl rfl rfl rfl rfl (fun _ => rfl) (by decide) (by omega) (by omega)) ?_)) | refine AW.seq ?_ | refine AW.region ?_ | refine Then.norm ?_ | refine AW.skip ?_ | refine AW.block ?_ | refine InB.norm ?_ | refine AW.condT rfl ?_ | refine AW.condF rfl ?_ | (refine AW.cond rfl (fun hc => ?_) (fun hc => ?_) <;> (try simp only [hsx] at hc) <;> (try first | (exfalso; omega) | contradiction | (exfalso; simp [dec_eq] at hc; done))) | refine AW.ret ?_ | refine AW.exit ?_ | refine Then.ret ?_ | refine Then.exit ?_ | refine InB.ret ?_ | refine InB.here ?_ | refine InB.off rfl ?_ | refine Rnd.ret ?_ | refine Rnd.exit ?_))
  all_goals first
    | (refine RQ.fin rfl rfl (congrArg bav ?_); rw [← h2]; clear h2; (first | rw [drop_next h0 (by assumption)] | rw [drop_end (by assumption)]); simp [famGo, dec_T, dec_F, dec_eq, *] <;> omega)
    | (refine RQ.fin rfl rfl (congrArg bav ?_); rw [← h2]; clear h2; (first | rw [drop_next h0 (by assumption)] | rw [drop_end (by assumption)]); simp [famGo, dec_T, dec_F, dec_eq, *]; done)
    | (refine Rnd.norm (i + 1, e + 1, d) (Le.cut 1 rfl (by repeat' (first | exact trivial | refine ⟨rfl, ?_⟩)) rfl rfl (Nat.zero_le _)) ⟨?_, ?_, ?_, ?_, ?_, ?_, ?_⟩ ?_ <;> simp only <;> first | omega | (rw [← h2]; clear h2; rw [drop_next h0 (by assumption)]; simp [famGo, dec_T, dec_F, dec_eq, *]; done))
    | (refine Rnd.norm (i + 1, e, d + 1) (Le.cut 1 rfl (by repeat' (first | exact trivial | refine ⟨rfl, ?_⟩)) rfl rfl (Nat.zero_le _)) ⟨?_, ?_, ?_, ?_, ?_, ?_, ?_⟩ ?_ <;> simp only <;> first | omega | (rw [← h2]; clear h2; rw [drop_next h0 (by assumption)]; simp [famGo, dec_T, dec_F, dec_eq, *]; done))
    | (refine Rnd.norm (i + 1, e, d) (Le.cut 1 rfl (by repeat' (first | exact trivial | refine ⟨rfl, ?_⟩)) rfl rfl (Nat.zero_le _)) ⟨?_, ?_, ?_, ?_, ?_, ?_, ?_⟩ ?_ <;> simp only <;> first | omega | (rw [← h2]; clear h2; rw [drop_next h0 (by assumption)]; simp [famGo, dec_T, dec_F, dec_eq, *]; done))
    | (refine RQ.fin rfl rfl (congrArg bav ?_); rw [← h2]; clear h2; rw [drop_end (by assumption)]; rw [Bool.eq_iff_iff]; simp [famGo, dec_dec', *] <;> omega)
theorem itN_step (f : List Node) : ∀ (k : Nat) (x : Int), itN f (k + 1) x = upN f (itN f k x)
  | 0, _ => rfl
  | k + 1, x => itN_step f k (upN f x)
theorem pigeon : ∀ {n : Nat} (g : Nat → Int), (∀ j, j ≤ n → 1 ≤ g j ∧ g j ≤ n) → ∃ i j, i < j ∧ j ≤ n ∧ g i = g j := by
  intro n g h
  by_cases hd : ∃ i j, i < j ∧ j ≤ n ∧ g i = g j
  · exact hd
  · exfalso
    have hn : ((List.range (n + 1)).map g).Nodup := by
      rw [List.nodup_iff_pairwise_ne, List.pairwise_map]
      refine List.Pairwise.imp_of_mem ?_ (List.pairwise_lt_range)
      intro i j _ hj hij e
      rw [List.mem_range] at hj
      exact hd ⟨i, j, hij, by omega, e⟩
    have hm : ∀ (l m : List Int), l.Nodup → (∀ x ∈ l, x ∈ m) → l.length ≤ m.length := by
      intro l
      induction l with
      | nil => exact fun m _ _ => Nat.zero_le _
      | cons x r ih =>
        intro m hn hs
        have hx := hs x (by simp)
        rw [List.nodup_cons] at hn
        have := ih (m.erase x) hn.2 fun y hy => (List.mem_erase_of_ne (fun e : y = x => hn.1 (by rw [← e]; exact hy))).2 (hs y (by simp [hy]))
        have hl := List.length_erase_of_mem hx
        have : 0 < m.length := List.length_pos_of_mem hx
        simp only [List.length_cons]
        omega
    have := hm _ ((List.range n).map fun j : Nat => (j : Int) + 1) hn fun x hx => by
      obtain ⟨j, hj, rfl⟩ := List.mem_map.1 hx
      rw [List.mem_range] at hj
      have := h j (by omega)
      exact List.mem_map.2 ⟨(g j - 1).toNat, List.mem_range.2 (by omega), by omega⟩
    simp at this
    omega
/-- Where one is still within after so many steps, one never comes to an end. -/
theorem ring_bad {f : List Node} {h : Int} (hin : ∀ j : Nat, j ≤ f.length → inR f (itN f j h)) : ¬ Good f h := by
  obtain ⟨i, j, hij, hj, e⟩ := pigeon (fun j => itN f j h) hin
  have hr : Reach f (itN f i h) (itN f i h) := by
    refine ⟨j - i, by omega, ?_, fun q hq => ?_⟩
    · rw [← itN_add, show i + (j - i) = j by omega]
      exact e.symm
    · rw [← itN_add]
      exact hin _ (by omega)
  have hb := reach_loop hr
  intro hg
  apply hb
  by_cases h0 : i = 0
  · subst h0; exact hg
  · exact (reach_good ⟨i, by omega, rfl, fun q hq => hin q (by omega)⟩).1 hg
theorem rRing_c (f : List Node) (h : Int) (hl : f.length ≤ 1000000000) : PureC Tryz.prog 135 [fav f, iav h] (bav (dec (¬ Good f h))) := by
  have hm : (List.map Node.iv f).length = f.length := List.length_map _
  refine PureC.mk tabs Tryz.func135 27 [.tmp 4] rfl rfl rfl rfl rfl ?_; intro w0 X
  (repeat' (first | ((with_reducible show AL _ _ _ _ _); first | (refine AL.step tabs rfl ?_; try dsimp only [len, List.nil_append, List.cons_append]) | refine AL.nil ?_ | (refine AL.op rfl (OpOK.ari64 rfl rfl rfl rfl rfl (by omega) (by omega)) ?_)) | fail | refine AW.seq ?_ | refine AW.region ?_ | refine Then.norm ?_ | refine AW.skip ?_ | refine AW.block ?_ | refine InB.norm ?_ | refine AW.condT rfl ?_ | refine AW.condF rfl ?_ | (refine AW.cond rfl (fun hc => ?_) (fun hc => ?_) <;> (try simp only [hsx] at hc) <;> (try first | (exfalso; omega) | contradiction | (exfalso; simp [dec_eq] at hc; done))) | refine AW.ret ?_ | refine AW.exit ?_ | refine Then.ret ?_ | refine Then.exit ?_ | refine InB.ret ?_ | refine InB.here ?_ | refine InB.off rfl ?_ | refine Rnd.ret ?_ | refine Rnd.exit ?_))
  refine AW.loop (α := Int) (fun i => ⟨[(2, .ptr 0 1 0 0), (5, iav (itN f i.toNat h)), (6, iav i)], [⟨24, 1, [[.imm (.sl (f.map Node.iv))]]⟩]⟩) (fun i => 0 ≤ i ∧ i ≤ f.length + 1 ∧ ∀ j : Nat, (j : Int) < i → inR f (itN f j h)) (fun i => (f.length + 1 - i).toNat) 0 (Le.cut 1 rfl (by repeat' (first | exact trivial | refine ⟨rfl, ?_⟩)) rfl rfl (Nat.zero_le _)) ⟨by omega, by omega, fun j hj => by omega⟩ ?_
  intro i ⟨h0, h1, h2⟩
  (repeat' (first | ((with_reducible show AL _ _ _ _ _); first | (refine AL.step tabs rfl ?_; try dsimp only [len, List.nil_append, List.cons_append]) | refine AL.op rfl (OpOK.call rfl rfl rfl rfl (rNode_c f (itN f i.toNat h) hl) rfl) ?_ | refine AL.op rfl (OpOK.call rfl rfl rfl rfl (rAbove_c (nodeAt f (itN f i.toNat h))) rfl) ?_ | refine AL.nil ?_ | (refine AL.op rfl (OpOK.ari64 rfl rfl rfl rfl rfl (by omega) (by omega)) ?_)) | refine AW.seq ?_ | refine AW.region ?_ | refine Then.norm ?_ | refine AW.skip ?_ | refine AW.block ?_ | refine InB.norm ?_ | refine AW.condT rfl ?_ | refine AW.condF rfl ?_ | (refine AW.cond rfl (fun hc => ?_) (fun hc => ?_) <;> (try simp only [hsx] at hc) <;> (try first | (exfalso; omega) | contradiction | (exfalso; simp [dec_eq] at hc; done))) | refine AW.ret ?_ | refine AW.exit ?_ | refine Then.ret ?_ | refine Then.exit ?_ | refine InB.ret ?_ | refine InB.here ?_ | refine InB.off rfl ?_ | refine Rnd.ret ?_ | refine Rnd.exit ?_))
  · have hout : ¬ inR f (itN f i.toNat h) := by simpa [inB, inR] using hc
    rw [dec_neg (p := ¬ Good f h) (fun hg => hg ⟨_, hout⟩)]
    exact RQ.fin rfl rfl rfl
  · have hin : inR f (itN f i.toNat h) := by simpa [inB, inR] using hc
    have e : itN f (i + 1).toNat h = aboveOf (nodeAt f (itN f i.toNat h)) := by
      rw [show (i + 1).toNat = i.toNat + 1 by omega, itN_step]
      unfold upN nodeAt
      rw [if_pos (show 1 ≤ itN f i.toNat h ∧ itN f i.toNat h ≤ (f.length : Int) from hin)]
    refine Rnd.norm (i + 1) (Le.cut 1 rfl ⟨rfl, by rw [e]; rfl, rfl, trivial⟩ rfl rfl (Nat.zero_le _)) ⟨by omega, by omega, fun j hj => ?_⟩ (by omega)
    by_cases h3 : (j : Int) < i
    · exact h2 j h3
    · rw [show j = i.toNat by omega]; exact hin
  · rw [dec_pos (ring_bad fun j hj => h2 j (by omega))]
    exact RQ.fin rfl rfl rfl
end Go.Proofs.YtjjdabihnmilgaaGreat.A
namespace Go.Proofs.YtjjdabihnmilgaaGreat.A
set_option linter.unusedVariables false
set_option linter.unusedSimpArgs false
set_option maxRecDepth 100000
set_option maxHeartbeats 4000000
def okKid (f : List Node) (h : Int) (n : Node) (k : Int) : Prop := inB f k = true ∧ (nodeAt f k).parent = h ∧ (cntB n.kids k : Int) = 1 ∧ (nodeAt f k).doc = n.doc
def rLinksP (f : List Node) (h : Int) (n : Node) : Prop := (∀ k ∈ n.kids, okKid f h n k) ∧ l1 f h n ∧ l2 f h n ∧ l3 f h n ∧ l4 f h n ∧ famB f n = true
theorem rLinks_c (f : List Node) (h : Int) (hl : f.length ≤ 1000000000) (hk : ∀ h, (nodeAt f h).kids.length ≤ 1000000000) (hk' : (atI f (h - 1)).kids.length ≤ 1000000000) (h1 : 1 ≤ h) (h2 : h ≤ f.length) : PureC Tryz.prog 134 [fav f, iav h] (bav (dec (rLinksP f h (atI f (h - 1))))) := by
  obtain ⟨n, hn⟩ : ∃ n, n = atI f (h - 1) := ⟨_, rfl⟩
  have hfam : PureC Tryz.prog 187 [fav f, kav n.kind, .imm (.sl (n.kids.map i64))] (bav (famB f n)) := rKids_c f n.kind n.kids hl (by rw [hn]; exact hk')
  rw [← hn] at hk' ⊢
  refine PureC.mk tabs Tryz.func134 152 [.tmp 4] rfl rfl rfl rfl rfl ?_; intro w0 X
  (repeat' (first | ((with_reducible show AL _ _ _ _ _); first | (refine AL.step tabs rfl ?_; try dsimp only [len, List.nil_append, List.cons_append]) | refine AL.nil ?_ | (refine AL.gsplitE rfl rfl rfl (fun hc => ?_) (fun hc => ?_) <;> (fail_if_success (exact absurd hc (by decide))) <;> (try simp only [hsx] at hc) <;> (try first | (exfalso; omega) | contradiction | (exfalso; simp [dec_eq] at hc; done))) | (refine AL.op rfl (OpOK.ari64 rfl rfl rfl rfl rfl (by omega) (by omega)) ?_) | (refine AL.op rfl (OpOK.index_map tabs rfl rfl rfl rfl rfl rfl rfl (fun _ => rfl) (by decide) (by omega) (by omega)) ?_)) | fail | refine AW.seq ?_ | refine AW.region ?_ | refine Then.norm ?_ | refine AW.skip ?_ | refine AW.block ?_ | refine InB.norm ?_ | refine AW.condT rfl ?_ | refine AW.condF rfl ?_ | (refine AW.cond rfl (fun hc => ?_) (fun hc => ?_) <;> (try simp only [hsx] at hc) <;> (try first | (exfalso; omega) | contradiction | (exfalso; simp [dec_eq] at hc; done))) | refine AW.ret ?_ | refine AW.exit ?_ | refine Then.ret ?_ | refine Then.exit ?_ | refine InB.ret ?_ | refine InB.here ?_ | refine InB.off rfl ?_ | refine Rnd.ret ?_ | refine Rnd.exit ?_))
  rw [← hn]
  refine AW.loop (α := Int) (fun i => ⟨[(1, iav h), (2, .ptr 0 1 0 0), (5, .ptr 1 1 0 0), (23, .imm (.sl (n.kids.map i64))), (24, iav (n.kids.map i64).length), (25, iav i)], [⟨24, 1, [[.imm (.sl (f.map Node.iv))]]⟩, ⟨81, 16, [n.iv.map .imm]⟩]⟩) (fun i => 0 ≤ i ∧ i ≤ n.kids.length ∧ ∀ k ∈ n.kids.take i.toNat, okKid f h n k) (fun i => (n.kids.length - i).toNat) 0 (Le.cut 2 rfl (by repeat' (first | exact trivial | refine ⟨rfl, ?_⟩)) rfl rfl (Nat.zero_le _)) ⟨by omega, by omega, fun k hk => by simp at hk⟩ ?_
  intro i ⟨i0, i1, i2⟩
  by_cases hi : i < n.kids.length
  · (repeat' (first | ((with_reducible show AL _ _ _ _ _); first | (refine AL.step tabs rfl ?_; try dsimp only [len, List.nil_append, List.cons_append]) | refine AL.op rfl (OpOK.call rfl rfl rfl rfl (rNode_c f (atI n.kids i) hl) rfl) ?_ | refine AL.op rfl (OpOK.call rfl rfl rfl rfl (rCount_c n.kids (atI n.kids i) hk') rfl) ?_ | refine AL.nil ?_ | (refine AL.gsplitE rfl rfl rfl (fun hc => ?_) (fun hc => ?_) <;> (fail_if_success (exact absurd hc (by decide))) <;> (try simp only [hsx] at hc) <;> (try first | (exfalso; omega) | contradiction | (exfalso; simp [dec_eq] at hc; done))) | (refine AL.op rfl (OpOK.ari64 rfl rfl rfl rfl rfl (by omega) (by omega)) ?_) | (refine AL.op rfl (OpOK.index_map tabs rfl rfl rfl rfl rfl rfl rfl (fun _ => rfl) (by decide) (by omega) (by omega)) ?_)) | refine AW.seq ?_ | refine AW.region ?_ | refine Then.norm ?_ | refine AW.skip ?_ | refine AW.block ?_ | refine InB.norm ?_ | refine AW.condT rfl ?_ | refine AW.condF rfl ?_ | (refine AW.cond rfl (fun hc => ?_) (fun hc => ?_) <;> (try simp only [hsx] at hc) <;> (try first | (exfalso; omega) | contradiction | (exfalso; simp [dec_eq] at hc; done))) | refine AW.ret ?_ | refine AW.exit ?_ | refine Then.ret ?_ | refine Then.exit ?_ | refine InB.ret ?_ | refine InB.here ?_ | refine InB.off rfl ?_ | refine Rnd.ret ?_ | refine Rnd.exit ?_))
    all_goals first
      | (rw [dec_neg (p := rLinksP f h n) (fun hr => by
          obtain ⟨a1, a2, a3, a4⟩ := hr.1 (atI n.kids i) (atI_mem i0 hi)
          first | exact hc a2 | exact hc a3 | exact hc a4 | (rw [hc] at a1; cases a1))]
         exact RQ.fin rfl rfl rfl)
      | (refine Rnd.norm (i + 1) (Le.cut 2 rfl (by repeat' (first | exact trivial | refine ⟨rfl, ?_⟩)) rfl rfl (Nat.zero_le _)) ⟨by omega, by omega, fun k hk2 => ?_⟩ (by omega)
         rw [take_next i0 hi] at hk2
         rcases List.mem_append.1 hk2 with h3 | h3
         · exact i2 k h3
         · rw [List.mem_singleton] at h3
           subst h3
           exact ⟨by assumption, by assumption, by assumption, by assumption⟩)
  · have hall : ∀ k ∈ n.kids, okKid f h n k := by rw [take_end (by omega)] at i2; exact i2
    (repeat' (first | ((with_reducible show AL _ _ _ _ _); first | (refine AL.step tabs rfl ?_; try dsimp only [len, List.nil_append, List.cons_append]) | refine AL.op rfl (OpOK.call rfl rfl rfl rfl (rNode_c f n.parent hl) rfl) ?_ | refine AL.op rfl (OpOK.call rfl rfl rfl rfl (rNode_c f n.shadow hl) rfl) ?_ | refine AL.op rfl (OpOK.call rfl rfl rfl rfl (rNode_c f n.host hl) rfl) ?_ | refine AL.op rfl (OpOK.call rfl rfl rfl rfl (rKind_c f n.doc hl) rfl) ?_ | refine AL.op rfl (OpOK.call rfl rfl rfl rfl (rCount_c (nodeAt f n.parent).kids h (hk _)) rfl) ?_ | refine AL.op rfl (OpOK.call rfl rfl rfl rfl hfam rfl) ?_ | refine AL.nil ?_ | (refine AL.gsplitE rfl rfl rfl (fun hc => ?_) (fun hc => ?_) <;> (fail_if_success (exact absurd hc (by decide))) <;> (try simp only [hsx] at hc) <;> (try first | (exfalso; omega) | contradiction | (exfalso; simp [dec_eq] at hc; done))) | (refine AL.op rfl (OpOK.ari64 rfl rfl rfl rfl rfl (by omega) (by omega)) ?_) | (refine AL.op rfl (OpOK.index_map tabs rfl rfl rfl rfl rfl rfl rfl (fun _ => rfl) (by decide) (by omega) (by omega)) ?_)) | refine AW.meet (t := 60) (l1 f h n) ⟨[(1, iav h), (2, .ptr 0 1 0 0), (5, .ptr 1 1 0 0)], [⟨24, 1, [[.imm (.sl (f.map Node.iv))]]⟩, ⟨81, 16, [n.iv.map .imm]⟩]⟩ ?_ (fun ml1 => ?_) | refine AW.meet (t := 92) (l2 f h n) ⟨[(1, iav h), (2, .ptr 0 1 0 0), (5, .ptr 1 1 0 0)], [⟨24, 1, [[.imm (.sl (f.map Node.iv))]]⟩, ⟨81, 16, [n.iv.map .imm]⟩]⟩ ?_ (fun ml2 => ?_) | refine AW.meet (t := 95) (l3 f h n) ⟨[(1, iav h), (2, .ptr 0 1 0 0), (5, .ptr 1 1 0 0)], [⟨24, 1, [[.imm (.sl (f.map Node.iv))]]⟩, ⟨81, 16, [n.iv.map .imm]⟩]⟩ ?_ (fun ml3 => ?_) | refine AW.meet (t := 118) (l4 f h n) ⟨[(1, iav h), (2, .ptr 0 1 0 0), (5, .ptr 1 1 0 0)], [⟨24, 1, [[.imm (.sl (f.map Node.iv))]]⟩, ⟨81, 16, [n.iv.map .imm]⟩]⟩ ?_ (fun ml4 => ?_) | refine AW.seq ?_ | refine AW.region ?_ | refine Then.norm ?_ | refine AW.skip ?_ | refine AW.block ?_ | refine InB.norm ?_ | refine AW.condT rfl ?_ | refine AW.condF rfl ?_ | (refine AW.cond rfl (fun hc => ?_) (fun hc => ?_) <;> (try simp only [hsx] at hc) <;> (try first | (exfalso; omega) | contradiction | (exfalso; simp [dec_eq] at hc; done))) | refine AW.ret ?_ | refine AW.exit ?_ | refine Then.ret ?_ | refine Then.exit ?_ | refine InB.ret ?_ | refine InB.here ?_ | refine InB.off rfl ?_ | refine Rnd.ret ?_ | refine Rnd.exit ?_))
    all_goals try (refine Meet.of ?_ (Le.cut 2 rfl ⟨rfl, rfl, rfl, trivial⟩ rfl rfl (Nat.zero_le _)); simp only [l1, l2, l3, l4]; grind)
    all_goals try (refine RQ.fin rfl rfl (congrArg bav ?_); simp only [rLinksP, ml1, ml2, ml3, ml4, eq_true hall, true_and, dec_bt]; done)
    all_goals (refine RQ.fin rfl rfl (congrArg bav ?_); rw [Bool.eq_iff_iff]; simp only [rLinksP, l1, l2, l3, l4, dec_true, Bool.not_eq_true', dec_false]; grind)
end Go.Proofs.YtjjdabihnmilgaaGreat.A
