/- Contracts: the reference of layer 3: whether units, numbers, nodes, forests are the same. -/
import Derived.Test.YtmhejcnaanocpaaGreatCDOneGrpAM
import Derived.Test.YtmhejcnaanocpaaGreatCDOneGrpAL
import Derived.Test.YtmhejcnaanocpaaGreatCDOneGrpAU
import Derived.Test.YtmhejcnaanocpaaGreatCDOneGrpAZ
namespace Go.Proofs.YtmhejcnaanocpaaGreat.A
set_option linter.unusedVariables false
set_option linter.unusedSimpArgs false
set_option maxRecDepth 100000
set_option maxHeartbeats 4000000
theorem rUnits_c (a b : List Int) (hl : a.length ≤ 1000000000) : PureC Tryz.prog 72 [.imm (.sl (a.map u16)), .imm (.sl (b.map u16))] (bav (dec (a = b))) := by
  refine PureC.mk tabs Tryz.func72 26 [.tmp 4] rfl rfl rfl rfl rfl ?_; intro w0 X
  (repeat' (first | ((with_reducible show AL _ _ _ _ _); first | (refine AL.step tabs rfl ?_; try dsimp only [len, List.nil_append, List.cons_append]) | refine AL.nil ?_ | (refine AL.gsplitE rfl rfl rfl (fun hc => ?_) (fun hc => ?_) <;> (fail_if_success (exact absurd hc (by decide))) <;> (try simp only [hsx] at hc) <;> (try first | (exfalso; omega) | contradiction | (exfalso; simp [dec_eq] at hc; done))) | (refine AL.op rfl (OpOK.ari64 rfl rfl rfl rfl rfl (by omega) (by omega)) ?_) | (refine AL.op rfl (OpOK.index_map tabs rfl rfl rfl rfl rfl rfl rfl (fun _ => rfl) (by decide) (by omega) (by omega)) ?_) | (refine AL.op rfl (OpOK.eqs rfl rfl rfl rfl eqt39 rfl rfl) ?_) | (refine AL.op rfl (OpOK.eqs rfl rfl rfl rfl eqt104 rfl rfl) ?_) | (refine AL.op rfl (OpOK.eqs rfl rfl rfl rfl eqt167 rfl rfl) ?_) | (refine AL.op rfl (OpOK.eqs rfl rfl rfl rfl eqt177 rfl rfl) ?_)) | ((with_reducible show DQ _ _ _ _ _ _); first | refine DQ.stepc (LS.val tabs rfl rfl rfl) rfl rfl rfl rfl rfl ?_ | refine DQ.stepc (LS.skip rfl rfl) rfl rfl rfl rfl rfl ?_ | refine DQ.nilM (by kernel_rfl) ?_ | refine DQ.stepc (LS.ari64 rfl rfl rfl rfl rfl rfl (by omega) (by omega)) rfl rfl rfl rfl rfl ?_ | refine DQ.stepc (LS.index_map tabs rfl rfl rfl rfl rfl rfl rfl rfl (fun _ => rfl) (by decide) (by omega) (by omega)) rfl rfl rfl rfl rfl ?_ | (refine DQ.gsplitE rfl rfl rfl (fun hc => ?_) (fun hc => ?_) <;> (fail_if_success (exact absurd hc (by decide))) <;> (try simp only [hsx] at hc) <;> (try first | (exfalso; omega) | contradiction | (exfalso; simp [dec_eq] at hc; done))) | refine DQ.stepc (LS.eqs rfl rfl rfl rfl rfl eqt39 rfl rfl) rfl rfl rfl rfl rfl ?_ | refine DQ.stepc (LS.eqs rfl rfl rfl rfl rfl eqt104 rfl rfl) rfl rfl rfl rfl rfl ?_ | refine DQ.stepc (LS.eqs rfl rfl rfl rfl rfl eqt167 rfl rfl) rfl rfl rfl rfl rfl ?_ | refine DQ.stepc (LS.eqs rfl rfl rfl rfl rfl eqt177 rfl rfl) rfl rfl rfl rfl rfl ?_) | fail | refine AW.seq ?_ | refine AW.region ?_ | refine Then.norm ?_ | refine AW.skip ?_ | refine AW.block ?_ | refine InB.norm ?_ | refine AW.condT rfl ?_ | refine AW.condF rfl ?_ | (refine AW.cond rfl (fun hc => ?_) (fun hc => ?_) <;> (try simp only [hsx] at hc) <;> (try first | (exfalso; omega) | contradiction | (exfalso; simp [dec_eq] at hc; done))) | refine AW.ret ?_ | refine AW.exit ?_ | refine Then.ret ?_ | refine Then.exit ?_ | refine InB.ret ?_ | refine InB.here ?_ | refine InB.off rfl ?_ | refine Rnd.ret ?_ | refine Rnd.exit ?_ | refine AW.drawW mixed (by kernel_rfl) ?_))
  · rw [dec_neg (p := a = b) (fun e => by subst e; exact hc rfl)]
    exact RQ.fin rfl rfl rfl
  have hlen : a.length = b.length := by omega
  clear hc
  refine AW.loop (α := Int) (fun i => ⟨[(0, .imm (.sl (a.map u16))), (1, .imm (.sl (b.map u16))), (12, iav (a.map u16).length), (13, iav i)], []⟩) (fun i => 0 ≤ i ∧ i ≤ a.length ∧ a.take i.toNat = b.take i.toNat) (fun i => (a.length - i).toNat) 0 (Le.cut 0 rfl (by repeat' (first | exact trivial | refine ⟨rfl, ?_⟩)) rfl rfl (Nat.zero_le _)) ⟨by omega, by omega, rfl⟩ ?_
  intro i ⟨h0, h1, h2⟩
  (repeat' (first | ((with_reducible show AL _ _ _ _ _); first | (refine AL.step tabs rfl ?_; try dsimp only [len, List.nil_append, List.cons_append]) | refine AL.nil ?_ | (refine AL.gsplitE rfl rfl rfl (fun hc => ?_) (fun hc => ?_) <;> (fail_if_success (exact absurd hc (by decide))) <;> (try simp only [hsx] at hc) <;> (try first | (exfalso; omega) | contradiction | (exfalso; simp [dec_eq] at hc; done))) | (refine AL.op rfl (OpOK.ari64 rfl rfl rfl rfl rfl (by omega) (by omega)) ?_) | (refine AL.op rfl (OpOK.index_map tabs rfl rfl rfl rfl rfl rfl rfl (fun _ => rfl) (by decide) (by omega) (by omega)) ?_) | (refine AL.op rfl (OpOK.eqs rfl rfl rfl rfl eqt39 rfl rfl) ?_) | (refine AL.op rfl (OpOK.eqs rfl rfl rfl rfl eqt104 rfl rfl) ?_) | (refine AL.op rfl (OpOK.eqs rfl rfl rfl rfl eqt167 rfl rfl) ?_) | (refine AL.op rfl (OpOK.eqs rfl rfl rfl rfl eqt177 rfl rfl) ?_)) | ((with_reducible show DQ _ _ _ _ _ _); first | refine DQ.stepc (LS.val tabs rfl rfl rfl) rfl rfl rfl rfl rfl ?_ | refine DQ.stepc (LS.skip rfl rfl) rfl rfl rfl rfl rfl ?_ | refine DQ.nilM (by kernel_rfl) ?_ | refine DQ.stepc (LS.ari64 rfl rfl rfl rfl rfl rfl (by omega) (by omega)) rfl rfl rfl rfl rfl ?_ | refine DQ.stepc (LS.index_map tabs rfl rfl rfl rfl rfl rfl rfl rfl (fun _ => rfl) (by decide) (by omega) (by omega)) rfl rfl rfl rfl rfl ?_ | (refine DQ.gsplitE rfl rfl rfl (fun hc => ?_) (fun hc => ?_) <;> (fail_if_success (exact absurd hc (by decide))) <;> (try simp only [hsx] at hc) <;> (try first | (exfalso; omega) | contradiction | (exfalso; simp [dec_eq] at hc; done))) | refine DQ.stepc (LS.eqs rfl rfl rfl rfl rfl eqt39 rfl rfl) rfl rfl rfl rfl rfl ?_ | refine DQ.stepc (LS.eqs rfl rfl rfl rfl rfl eqt104 rfl rfl) rfl rfl rfl rfl rfl ?_ | refine DQ.stepc (LS.eqs rfl rfl rfl rfl rfl eqt167 rfl rfl) rfl rfl rfl rfl rfl ?_ | refine DQ.stepc (LS.eqs rfl rfl rfl rfl rfl eqt177 rfl rfl) rfl rfl rfl rfl rfl ?_) | refine AW.seq ?_ | refine AW.region ?_ | refine Then.norm ?_ | refine AW.skip ?_ | refine AW.block ?_ | refine InB.norm ?_ | refine AW.condT rfl ?_ | refine AW.condF rfl ?_ | (refine AW.cond rfl (fun hc => ?_) (fun hc => ?_) <;> (try simp only [hsx] at hc) <;> (try first | (exfalso; omega) | contradiction | (exfalso; simp [dec_eq] at hc; done))) | refine AW.ret ?_ | refine AW.exit ?_ | refine Then.ret ?_ | refine Then.exit ?_ | refine InB.ret ?_ | refine InB.here ?_ | refine InB.off rfl ?_ | refine Rnd.ret ?_ | refine Rnd.exit ?_ | refine AW.drawW mixed (by kernel_rfl) ?_))
  · rw [dec_neg (p := a = b) (list_ne hc)]
    exact RQ.fin rfl rfl rfl
  · refine Rnd.norm (i + 1) (Le.cut 0 rfl (by repeat' (first | exact trivial | refine ⟨rfl, ?_⟩)) rfl rfl (Nat.zero_le _)) ⟨by omega, by omega, ?_⟩ (by omega)
    rw [take_next h0 (by assumption), take_next h0 (by omega), h2, hc]
  · rw [take_end hc, take_end (by omega)] at h2
    rw [dec_pos (p := a = b) h2]; exact RQ.fin rfl rfl rfl
theorem rInts_c (a b : List Int) (hl : a.length ≤ 1000000000) : PureC Tryz.prog 73 [.imm (.sl (a.map i64)), .imm (.sl (b.map i64))] (bav (dec (a = b))) := by
  refine PureC.mk tabs Tryz.func73 26 [.tmp 4] rfl rfl rfl rfl rfl ?_; intro w0 X
  (repeat' (first | ((with_reducible show AL _ _ _ _ _); first | (refine AL.step tabs rfl ?_; try dsimp only [len, List.nil_append, List.cons_append]) | refine AL.nil ?_ | (refine AL.gsplitE rfl rfl rfl (fun hc => ?_) (fun hc => ?_) <;> (fail_if_success (exact absurd hc (by decide))) <;> (try simp only [hsx] at hc) <;> (try first | (exfalso; omega) | contradiction | (exfalso; simp [dec_eq] at hc; done))) | (refine AL.op rfl (OpOK.ari64 rfl rfl rfl rfl rfl (by omega) (by omega)) ?_) | (refine AL.op rfl (OpOK.index_map tabs rfl rfl rfl rfl rfl rfl rfl (fun _ => rfl) (by decide) (by omega) (by omega)) ?_) | (refine AL.op rfl (OpOK.eqs rfl rfl rfl rfl eqt39 rfl rfl) ?_) | (refine AL.op rfl (OpOK.eqs rfl rfl rfl rfl eqt104 rfl rfl) ?_) | (refine AL.op rfl (OpOK.eqs rfl rfl rfl rfl eqt167 rfl rfl) ?_) | (refine AL.op rfl (OpOK.eqs rfl rfl rfl rfl eqt177 rfl rfl) ?_)) | ((with_reducible show DQ _ _ _ _ _ _); first | refine DQ.stepc (LS.val tabs rfl rfl rfl) rfl rfl rfl rfl rfl ?_ | refine DQ.stepc (LS.skip rfl rfl) rfl rfl rfl rfl rfl ?_ | refine DQ.nilM (by kernel_rfl) ?_ | refine DQ.stepc (LS.ari64 rfl rfl rfl rfl rfl rfl (by omega) (by omega)) rfl rfl rfl rfl rfl ?_ | refine DQ.stepc (LS.index_map tabs rfl rfl rfl rfl rfl rfl rfl rfl (fun _ => rfl) (by decide) (by omega) (by omega)) rfl rfl rfl rfl rfl ?_ | (refine DQ.gsplitE rfl rfl rfl (fun hc => ?_) (fun hc => ?_) <;> (fail_if_success (exact absurd hc (by decide))) <;> (try simp only [hsx] at hc) <;> (try first | (exfalso; omega) | contradiction | (exfalso; simp [dec_eq] at hc; done))) | refine DQ.stepc (LS.eqs rfl rfl rfl rfl rfl eqt39 rfl rfl) rfl rfl rfl rfl rfl ?_ | refine DQ.stepc (LS.eqs rfl rfl rfl rfl rfl eqt104 rfl rfl) rfl rfl rfl rfl rfl ?_ | refine DQ.stepc (LS.eqs rfl rfl rfl rfl rfl eqt167 rfl rfl) rfl rfl rfl rfl rfl ?_ | refine DQ.stepc (LS.eqs rfl rfl rfl rfl rfl eqt177 rfl rfl) rfl rfl rfl rfl rfl ?_) | fail | refine AW.seq ?_ | refine AW.region ?_ | refine Then.norm ?_ | refine AW.skip ?_ | refine AW.block ?_ | refine InB.norm ?_ | refine AW.condT rfl ?_ | refine AW.condF rfl ?_ | (refine AW.cond rfl (fun hc => ?_) (fun hc => ?_) <;> (try simp only [hsx] at hc) <;> (try first | (exfalso; omega) | contradiction | (exfalso; simp [dec_eq] at hc; done))) | refine AW.ret ?_ | refine AW.exit ?_ | refine Then.ret ?_ | refine Then.exit ?_ | refine InB.ret ?_ | refine InB.here ?_ | refine InB.off rfl ?_ | refine Rnd.ret ?_ | refine Rnd.exit ?_ | refine AW.drawW mixed (by kernel_rfl) ?_))
  · rw [dec_neg (p := a = b) (fun e => by subst e; exact hc rfl)]
    exact RQ.fin rfl rfl rfl
  have hlen : a.length = b.length := by omega
  clear hc
  refine AW.loop (α := Int) (fun i => ⟨[(0, .imm (.sl (a.map i64))), (1, .imm (.sl (b.map i64))), (12, iav (a.map i64).length), (13, iav i)], []⟩) (fun i => 0 ≤ i ∧ i ≤ a.length ∧ a.take i.toNat = b.take i.toNat) (fun i => (a.length - i).toNat) 0 (Le.cut 0 rfl (by repeat' (first | exact trivial | refine ⟨rfl, ?_⟩)) rfl rfl (Nat.zero_le _)) ⟨by omega, by omega, rfl⟩ ?_
  intro i ⟨h0, h1, h2⟩
  (repeat' (first | ((with_reducible show AL _ _ _ _ _); first | (refine AL.step tabs rfl ?_; try dsimp only [len, List.nil_append, List.cons_append]) | refine AL.nil ?_ | (refine AL.gsplitE rfl rfl rfl (fun hc => ?_) (fun hc => ?_) <;> (fail_if_success (exact absurd hc (by decide))) <;> (try simp only [hsx] at hc) <;> (try first | (exfalso; omega) | contradiction | (exfalso; simp [dec_eq] at hc; done))) | (refine AL.op rfl (OpOK.ari64 rfl rfl rfl rfl rfl (by omega) (by omega)) ?_) | (refine AL.op rfl (OpOK.index_map tabs rfl rfl rfl rfl rfl rfl rfl (fun _ => rfl) (by decide) (by omega) (by omega)) ?_) | (refine AL.op rfl (OpOK.eqs rfl rfl rfl rfl eqt39 rfl rfl) ?_) | (refine AL.op rfl (OpOK.eqs rfl rfl rfl rfl eqt104 rfl rfl) ?_) | (refine AL.op rfl (OpOK.eqs rfl rfl rfl rfl eqt167 rfl rfl) ?_) | (refine AL.op rfl (OpOK.eqs rfl rfl rfl rfl eqt177 rfl rfl) ?_)) | ((with_reducible show DQ _ _ _ _ _ _); first | refine DQ.stepc (LS.val tabs rfl rfl rfl) rfl rfl rfl rfl rfl ?_ | refine DQ.stepc (LS.skip rfl rfl) rfl rfl rfl rfl rfl ?_ | refine DQ.nilM (by kernel_rfl) ?_ | refine DQ.stepc (LS.ari64 rfl rfl rfl rfl rfl rfl (by omega) (by omega)) rfl rfl rfl rfl rfl ?_ | refine DQ.stepc (LS.index_map tabs rfl rfl rfl rfl rfl rfl rfl rfl (fun _ => rfl) (by decide) (by omega) (by omega)) rfl rfl rfl rfl rfl ?_ | (refine DQ.gsplitE rfl rfl rfl (fun hc => ?_) (fun hc => ?_) <;> (fail_if_success (exact absurd hc (by decide))) <;> (try simp only [hsx] at hc) <;> (try first | (exfalso; omega) | contradiction | (exfalso; simp [dec_eq] at hc; done))) | refine DQ.stepc (LS.eqs rfl rfl rfl rfl rfl eqt39 rfl rfl) rfl rfl rfl rfl rfl ?_ | refine DQ.stepc (LS.eqs rfl rfl rfl rfl rfl eqt104 rfl rfl) rfl rfl rfl rfl rfl ?_ | refine DQ.stepc (LS.eqs rfl rfl rfl rfl rfl eqt167 rfl rfl) rfl rfl rfl rfl rfl ?_ | refine DQ.stepc (LS.eqs rfl rfl rfl rfl rfl eqt177 rfl rfl) rfl rfl rfl rfl rfl ?_) | refine AW.seq ?_ | refine AW.region ?_ | refine Then.norm ?_ | refine AW.skip ?_ | refine AW.block ?_ | refine InB.norm ?_ | refine AW.condT rfl ?_ | refine AW.condF rfl ?_ | (refine AW.cond rfl (fun hc => ?_) (fun hc => ?_) <;> (try simp only [hsx] at hc) <;> (try first | (exfalso; omega) | contradiction | (exfalso; simp [dec_eq] at hc; done))) | refine AW.ret ?_ | refine AW.exit ?_ | refine Then.ret ?_ | refine Then.exit ?_ | refine InB.ret ?_ | refine InB.here ?_ | refine InB.off rfl ?_ | refine Rnd.ret ?_ | refine Rnd.exit ?_ | refine AW.drawW mixed (by kernel_rfl) ?_))
  · rw [dec_neg (p := a = b) (list_ne hc)]
    exact RQ.fin rfl rfl rfl
  · refine Rnd.norm (i + 1) (Le.cut 0 rfl (by repeat' (first | exact trivial | refine ⟨rfl, ?_⟩)) rfl rfl (Nat.zero_le _)) ⟨by omega, by omega, ?_⟩ (by omega)
    rw [take_next h0 (by assumption), take_next h0 (by omega), h2, hc]
  · rw [take_end hc, take_end (by omega)] at h2
    rw [dec_pos (p := a = b) h2]; exact RQ.fin rfl rfl rfl
theorem rSameNode_c (a b : Node) (ha : FitN a) : PureC Tryz.prog 31 [a.av, b.av] (bav (dec (a = b))) := by
  have hla := ha.attrs
  refine PureC.mk tabs Tryz.func31 120 [.tmp 4] rfl rfl rfl rfl rfl ?_; intro w0 X
  (repeat' (first | ((with_reducible show AL _ _ _ _ _); first | (refine AL.step tabs rfl ?_; try dsimp only [len, List.nil_append, List.cons_append]) | refine AL.op rfl (OpOK.call rfl rfl rfl rfl (rUnits_c a.data b.data ha.data) rfl) ?_ | refine AL.op rfl (OpOK.call rfl rfl rfl rfl (rInts_c a.kids b.kids ha.kids) rfl) ?_ | refine AL.nil ?_ | (refine AL.gsplitE rfl rfl rfl (fun hc => ?_) (fun hc => ?_) <;> (fail_if_success (exact absurd hc (by decide))) <;> (try simp only [hsx] at hc) <;> (try first | (exfalso; omega) | contradiction | (exfalso; simp [dec_eq] at hc; done))) | (refine AL.op rfl (OpOK.ari64 rfl rfl rfl rfl rfl (by omega) (by omega)) ?_) | (refine AL.op rfl (OpOK.index_map tabs rfl rfl rfl rfl rfl rfl rfl (fun _ => rfl) (by decide) (by omega) (by omega)) ?_) | (refine AL.op rfl (OpOK.eqs rfl rfl rfl rfl eqt39 rfl rfl) ?_) | (refine AL.op rfl (OpOK.eqs rfl rfl rfl rfl eqt104 rfl rfl) ?_) | (refine AL.op rfl (OpOK.eqs rfl rfl rfl rfl eqt167 rfl rfl) ?_) | (refine AL.op rfl (OpOK.eqs rfl rfl rfl rfl eqt177 rfl rfl) ?_)) | ((with_reducible show DQ _ _ _ _ _ _); first | refine DQ.stepc (LS.val tabs rfl rfl rfl) rfl rfl rfl rfl rfl ?_ | refine DQ.stepc (LS.skip rfl rfl) rfl rfl rfl rfl rfl ?_ | refine DQ.nilM (by kernel_rfl) ?_ | refine DQ.stepc (LS.ari64 rfl rfl rfl rfl rfl rfl (by omega) (by omega)) rfl rfl rfl rfl rfl ?_ | refine DQ.stepc (LS.index_map tabs rfl rfl rfl rfl rfl rfl rfl rfl (fun _ => rfl) (by decide) (by omega) (by omega)) rfl rfl rfl rfl rfl ?_ | (refine DQ.gsplitE rfl rfl rfl (fun hc => ?_) (fun hc => ?_) <;> (fail_if_success (exact absurd hc (by decide))) <;> (try simp only [hsx] at hc) <;> (try first | (exfalso; omega) | contradiction | (exfalso; simp [dec_eq] at hc; done))) | refine DQ.stepc (LS.eqs rfl rfl rfl rfl rfl eqt39 rfl rfl) rfl rfl rfl rfl rfl ?_ | refine DQ.stepc (LS.eqs rfl rfl rfl rfl rfl eqt104 rfl rfl) rfl rfl rfl rfl rfl ?_ | refine DQ.stepc (LS.eqs rfl rfl rfl rfl rfl eqt167 rfl rfl) rfl rfl rfl rfl rfl ?_ | refine DQ.stepc (LS.eqs rfl rfl rfl rfl rfl eqt177 rfl rfl) rfl rfl rfl rfl rfl ?_) | refine AW.seq ?_ | refine AW.region ?_ | refine Then.norm ?_ | refine AW.skip ?_ | refine AW.block ?_ | refine InB.norm ?_ | refine AW.condT rfl ?_ | refine AW.condF rfl ?_ | (refine AW.cond rfl (fun hc => ?_) (fun hc => ?_) <;> (try simp only [hsx] at hc) <;> (try first | (exfalso; omega) | contradiction | (exfalso; simp [dec_eq] at hc; done))) | refine AW.ret ?_ | refine AW.exit ?_ | refine Then.ret ?_ | refine Then.exit ?_ | refine InB.ret ?_ | refine InB.here ?_ | refine InB.off rfl ?_ | refine Rnd.ret ?_ | refine Rnd.exit ?_ | refine AW.drawW mixed (by kernel_rfl) ?_))
  all_goals try (refine RQ.fin rfl rfl (congrArg bav ?_); rw [Bool.eq_iff_iff]; simp only [Bool.and_eq_true, dec_true, node_eq, name_eq, beq_iff_eq]; grind)
  have hlen : a.attrs.length = b.attrs.length := by grind
  refine AW.loop (α := Int) (fun i => ⟨[(2, .ptr 0 1 0 0), (3, .ptr 1 1 0 0), (31, iav (a.attrs.map Attr.iv).length), (32, iav i)], [⟨44, 16, [a.iv.map .imm]⟩, ⟨44, 16, [b.iv.map .imm]⟩]⟩) (fun i => 0 ≤ i ∧ i ≤ a.attrs.length ∧ a.attrs.take i.toNat = b.attrs.take i.toNat) (fun i => (a.attrs.length - i).toNat) 0 (Le.cut 2 rfl (by repeat' (first | exact trivial | refine ⟨rfl, ?_⟩)) rfl rfl (Nat.zero_le _)) ⟨by omega, by omega, rfl⟩ ?_
  intro i ⟨h0, h1, h2⟩
  (repeat' (first | ((with_reducible show AL _ _ _ _ _); first | (refine AL.step tabs rfl ?_; try dsimp only [len, List.nil_append, List.cons_append]) | refine AL.nil ?_ | (refine AL.gsplitE rfl rfl rfl (fun hc => ?_) (fun hc => ?_) <;> (fail_if_success (exact absurd hc (by decide))) <;> (try simp only [hsx] at hc) <;> (try first | (exfalso; omega) | contradiction | (exfalso; simp [dec_eq] at hc; done))) | (refine AL.op rfl (OpOK.ari64 rfl rfl rfl rfl rfl (by omega) (by omega)) ?_) | (refine AL.op rfl (OpOK.index_map tabs rfl rfl rfl rfl rfl rfl rfl (fun _ => rfl) (by decide) (by omega) (by omega)) ?_) | (refine AL.op rfl (OpOK.eqs rfl rfl rfl rfl eqt39 rfl rfl) ?_) | (refine AL.op rfl (OpOK.eqs rfl rfl rfl rfl eqt104 rfl rfl) ?_) | (refine AL.op rfl (OpOK.eqs rfl rfl rfl rfl eqt167 rfl rfl) ?_) | (refine AL.op rfl (OpOK.eqs rfl rfl rfl rfl eqt177 rfl rfl) ?_)) | ((with_reducible show DQ _ _ _ _ _ _); first | refine DQ.stepc (LS.val tabs rfl rfl rfl) rfl rfl rfl rfl rfl ?_ | refine DQ.stepc (LS.skip rfl rfl) rfl rfl rfl rfl rfl ?_ | refine DQ.nilM (by kernel_rfl) ?_ | refine DQ.stepc (LS.ari64 rfl rfl rfl rfl rfl rfl (by omega) (by omega)) rfl rfl rfl rfl rfl ?_ | refine DQ.stepc (LS.index_map tabs rfl rfl rfl rfl rfl rfl rfl rfl (fun _ => rfl) (by decide) (by omega) (by omega)) rfl rfl rfl rfl rfl ?_ | (refine DQ.gsplitE rfl rfl rfl (fun hc => ?_) (fun hc => ?_) <;> (fail_if_success (exact absurd hc (by decide))) <;> (try simp only [hsx] at hc) <;> (try first | (exfalso; omega) | contradiction | (exfalso; simp [dec_eq] at hc; done))) | refine DQ.stepc (LS.eqs rfl rfl rfl rfl rfl eqt39 rfl rfl) rfl rfl rfl rfl rfl ?_ | refine DQ.stepc (LS.eqs rfl rfl rfl rfl rfl eqt104 rfl rfl) rfl rfl rfl rfl rfl ?_ | refine DQ.stepc (LS.eqs rfl rfl rfl rfl rfl eqt167 rfl rfl) rfl rfl rfl rfl rfl ?_ | refine DQ.stepc (LS.eqs rfl rfl rfl rfl rfl eqt177 rfl rfl) rfl rfl rfl rfl rfl ?_) | refine AW.seq ?_ | refine AW.region ?_ | refine Then.norm ?_ | refine AW.skip ?_ | refine AW.block ?_ | refine InB.norm ?_ | refine AW.condT rfl ?_ | refine AW.condF rfl ?_ | (refine AW.cond rfl (fun hc => ?_) (fun hc => ?_) <;> (try simp only [hsx] at hc) <;> (try first | (exfalso; omega) | contradiction | (exfalso; simp [dec_eq] at hc; done))) | refine AW.ret ?_ | refine AW.exit ?_ | refine Then.ret ?_ | refine Then.exit ?_ | refine InB.ret ?_ | refine InB.here ?_ | refine InB.off rfl ?_ | refine Rnd.ret ?_ | refine Rnd.exit ?_ | refine AW.drawW mixed (by kernel_rfl) ?_))
  · rw [dec_neg (p := a = b) (fun e => by subst e; simp [dec_eq] at hc)]
    exact RQ.fin rfl rfl rfl
  · have e : atI a.attrs i = atI b.attrs i := by
      simp only [Bool.and_eq_true, dec_true] at hc
      rw [attr_eq, name_eq]; grind
    refine Rnd.norm (i + 1) (Le.cut 2 rfl (by repeat' (first | exact trivial | refine ⟨rfl, ?_⟩)) rfl rfl (Nat.zero_le _)) ⟨by omega, by omega, ?_⟩ (by omega)
    rw [take_next h0 (by assumption), take_next h0 (by omega), h2, e]
  all_goals
    have ea : a.attrs = b.attrs := by
      rw [take_end (by assumption), take_end (by omega)] at h2
      exact h2
    refine RQ.fin rfl rfl (congrArg bav ?_)
    rw [Bool.eq_iff_iff]
    simp only [Bool.and_eq_true, Bool.and_eq_false_iff, dec_true, dec_false, node_eq, name_eq, beq_iff_eq] at *
    grind
theorem rSame_c (f g : List Node) (hf : Fit f) : PureC Tryz.prog 16 [fav f, fav g] (bav (dec (f = g))) := by
  have hl := hf.len
  refine PureC.mk tabs Tryz.func16 32 [.tmp 4] rfl rfl rfl rfl rfl ?_; intro w0 X
  (repeat' (first | ((with_reducible show AL _ _ _ _ _); first | (refine AL.step tabs rfl ?_; try dsimp only [len, List.nil_append, List.cons_append]) | refine AL.nil ?_ | (refine AL.gsplitE rfl rfl rfl (fun hc => ?_) (fun hc => ?_) <;> (fail_if_success (exact absurd hc (by decide))) <;> (try simp only [hsx] at hc) <;> (try first | (exfalso; omega) | contradiction | (exfalso; simp [dec_eq] at hc; done))) | (refine AL.op rfl (OpOK.ari64 rfl rfl rfl rfl rfl (by omega) (by omega)) ?_) | (refine AL.op rfl (OpOK.index_map tabs rfl rfl rfl rfl rfl rfl rfl (fun _ => rfl) (by decide) (by omega) (by omega)) ?_) | (refine AL.op rfl (OpOK.eqs rfl rfl rfl rfl eqt39 rfl rfl) ?_) | (refine AL.op rfl (OpOK.eqs rfl rfl rfl rfl eqt104 rfl rfl) ?_) | (refine AL.op rfl (OpOK.eqs rfl rfl rfl rfl eqt167 rfl rfl) ?_) | (refine AL.op rfl (OpOK.eqs rfl rfl rfl rfl eqt177 rfl rfl) ?_)) | ((with_reducible show DQ _ _ _ _ _ _); first | refine DQ.stepc (LS.val tabs rfl rfl rfl) rfl rfl rfl rfl rfl ?_ | refine DQ.stepc (LS.skip rfl rfl) rfl rfl rfl rfl rfl ?_ | refine DQ.nilM (by kernel_rfl) ?_ | refine DQ.stepc (LS.ari64 rfl rfl rfl rfl rfl rfl (by omega) (by omega)) rfl rfl rfl rfl rfl ?_ | refine DQ.stepc (LS.index_map tabs rfl rfl rfl rfl rfl rfl rfl rfl (fun _ => rfl) (by decide) (by omega) (by omega)) rfl rfl rfl rfl rfl ?_ | (refine DQ.gsplitE rfl rfl rfl (fun hc => ?_) (fun hc => ?_) <;> (fail_if_success (exact absurd hc (by decide))) <;> (try simp only [hsx] at hc) <;> (try first | (exfalso; omega) | contradiction | (exfalso; simp [dec_eq] at hc; done))) | refine DQ.stepc (LS.eqs rfl rfl rfl rfl rfl eqt39 rfl rfl) rfl rfl rfl rfl rfl ?_ | refine DQ.stepc (LS.eqs rfl rfl rfl rfl rfl eqt104 rfl rfl) rfl rfl rfl rfl rfl ?_ | refine DQ.stepc (LS.eqs rfl rfl rfl rfl rfl eqt167 rfl rfl) rfl rfl rfl rfl rfl ?_ | refine DQ.stepc (LS.eqs rfl rfl rfl rfl rfl eqt177 rfl rfl) rfl rfl rfl rfl rfl ?_) | refine AW.seq ?_ | refine AW.region ?_ | refine Then.norm ?_ | refine AW.skip ?_ | refine AW.block ?_ | refine InB.norm ?_ | refine AW.condT rfl ?_ | refine AW.condF rfl ?_ | (refine AW.cond rfl (fun hc => ?_) (fun hc => ?_) <;> (try simp only [hsx] at hc) <;> (try first | (exfalso; omega) | contradiction | (exfalso; simp [dec_eq] at hc; done))) | refine AW.ret ?_ | refine AW.exit ?_ | refine Then.ret ?_ | refine Then.exit ?_ | refine InB.ret ?_ | refine InB.here ?_ | refine InB.off rfl ?_ | refine Rnd.ret ?_ | refine Rnd.exit ?_ | refine AW.drawW mixed (by kernel_rfl) ?_))
  · rw [dec_neg (p := f = g) (fun e => by subst e; exact hc rfl)]
    exact RQ.fin rfl rfl rfl
  have hlen : f.length = g.length := by grind
  refine AW.loop (α := Int) (fun i => ⟨[(2, .ptr 0 1 0 0), (3, .ptr 1 1 0 0), (15, iav (f.map Node.iv).length), (16, iav i)], [⟨24, 1, [[.imm (.sl (f.map Node.iv))]]⟩, ⟨24, 1, [[.imm (.sl (g.map Node.iv))]]⟩]⟩) (fun i => 0 ≤ i ∧ i ≤ f.length ∧ f.take i.toNat = g.take i.toNat) (fun i => (f.length - i).toNat) 0 (Le.cut 2 rfl (by repeat' (first | exact trivial | refine ⟨rfl, ?_⟩)) rfl rfl (Nat.zero_le _)) ⟨by omega, by omega, rfl⟩ ?_
  intro i ⟨h0, h1, h2⟩
  (repeat' (first | ((with_reducible show AL _ _ _ _ _); first | (refine AL.step tabs rfl ?_; try dsimp only [len, List.nil_append, List.cons_append]) | refine AL.nil ?_ | (refine AL.gsplitE rfl rfl rfl (fun hc => ?_) (fun hc => ?_) <;> (fail_if_success (exact absurd hc (by decide))) <;> (try simp only [hsx] at hc) <;> (try first | (exfalso; omega) | contradiction | (exfalso; simp [dec_eq] at hc; done))) | (refine AL.op rfl (OpOK.ari64 rfl rfl rfl rfl rfl (by omega) (by omega)) ?_) | (refine AL.op rfl (OpOK.index_map tabs rfl rfl rfl rfl rfl rfl rfl (fun _ => rfl) (by decide) (by omega) (by omega)) ?_) | (refine AL.op rfl (OpOK.eqs rfl rfl rfl rfl eqt39 rfl rfl) ?_) | (refine AL.op rfl (OpOK.eqs rfl rfl rfl rfl eqt104 rfl rfl) ?_) | (refine AL.op rfl (OpOK.eqs rfl rfl rfl rfl eqt167 rfl rfl) ?_) | (refine AL.op rfl (OpOK.eqs rfl rfl rfl rfl eqt177 rfl rfl) ?_)) | ((with_reducible show DQ _ _ _ _ _ _); first | refine DQ.stepc (LS.call rfl rfl rfl rfl rfl (rSameNode_c (atI f i) (atI g i) (hf.atI i (by omega) (by omega))) rfl) rfl rfl rfl rfl rfl ?_ | refine DQ.stepc (LS.val tabs rfl rfl rfl) rfl rfl rfl rfl rfl ?_ | refine DQ.stepc (LS.skip rfl rfl) rfl rfl rfl rfl rfl ?_ | refine DQ.nilM (by kernel_rfl) ?_ | refine DQ.stepc (LS.ari64 rfl rfl rfl rfl rfl rfl (by omega) (by omega)) rfl rfl rfl rfl rfl ?_ | refine DQ.stepc (LS.index_map tabs rfl rfl rfl rfl rfl rfl rfl rfl (fun _ => rfl) (by decide) (by omega) (by omega)) rfl rfl rfl rfl rfl ?_ | (refine DQ.gsplitE rfl rfl rfl (fun hc => ?_) (fun hc => ?_) <;> (fail_if_success (exact absurd hc (by decide))) <;> (try simp only [hsx] at hc) <;> (try first | (exfalso; omega) | contradiction | (exfalso; simp [dec_eq] at hc; done))) | refine DQ.stepc (LS.eqs rfl rfl rfl rfl rfl eqt39 rfl rfl) rfl rfl rfl rfl rfl ?_ | refine DQ.stepc (LS.eqs rfl rfl rfl rfl rfl eqt104 rfl rfl) rfl rfl rfl rfl rfl ?_ | refine DQ.stepc (LS.eqs rfl rfl rfl rfl rfl eqt167 rfl rfl) rfl rfl rfl rfl rfl ?_ | refine DQ.stepc (LS.eqs rfl rfl rfl rfl rfl eqt177 rfl rfl) rfl rfl rfl rfl rfl ?_) | refine AW.seq ?_ | refine AW.region ?_ | refine Then.norm ?_ | refine AW.skip ?_ | refine AW.block ?_ | refine InB.norm ?_ | refine AW.condT rfl ?_ | refine AW.condF rfl ?_ | (refine AW.cond rfl (fun hc => ?_) (fun hc => ?_) <;> (try simp only [hsx] at hc) <;> (try first | (exfalso; omega) | contradiction | (exfalso; simp [dec_eq] at hc; done))) | refine AW.ret ?_ | refine AW.exit ?_ | refine Then.ret ?_ | refine Then.exit ?_ | refine InB.ret ?_ | refine InB.here ?_ | refine InB.off rfl ?_ | refine Rnd.ret ?_ | refine Rnd.exit ?_ | refine AW.drawW mixed (by kernel_rfl) ?_))
  · rw [dec_neg (p := f = g) (list_ne hc)]
    exact RQ.fin rfl rfl rfl
  · refine Rnd.norm (i + 1) (Le.cut 2 rfl (by repeat' (first | exact trivial | refine ⟨rfl, ?_⟩)) rfl rfl (Nat.zero_le _)) ⟨by omega, by omega, ?_⟩ (by omega)
    rw [take_next h0 (by assumption), take_next h0 (by omega), h2, hc]
  · rw [take_end hc, take_end (by omega)] at h2
    rw [dec_pos (p := f = g) h2]; exact RQ.fin rfl rfl rfl
end Go.Proofs.YtmhejcnaanocpaaGreat.A
namespace Go.Proofs.YtmhejcnaanocpaaGreat.A
set_option linter.unusedVariables false
set_option linter.unusedSimpArgs false
set_option maxRecDepth 100000
set_option maxHeartbeats 4000000
def Chain : List Node → List Change → List Node → Prop
  | f, [], g => f = g
  | f, c :: r, g => ∃ m, PureC Tryz.prog 71 [fav f, c.av] (.tup [fav m, iav 0]) ∧ Chain m r g
end Go.Proofs.YtmhejcnaanocpaaGreat.A
namespace Go.Proofs.YtmhejcnaanocpaaGreat.A
set_option linter.unusedVariables false
set_option linter.unusedSimpArgs false
set_option maxRecDepth 100000
set_option maxHeartbeats 4000000
theorem chain_snoc {c : Change} {m : List Node} : ∀ {f : List Node} {l : List Change} {g : List Node}, Chain f l g → PureC Tryz.prog 71 [fav g, c.av] (.tup [fav m, iav 0]) → Chain f (l ++ [c]) m
  | f, [], g, h, h2 => by
    have e : f = g := h
    subst e
    exact ⟨m, h2, rfl⟩
  | f, d :: r, g, h, h2 => by
    obtain ⟨k, h3, h4⟩ := h
    exact ⟨k, h3, chain_snoc h4 h2⟩
theorem doS_chain {f : List Node} {p : PS} {c : Change} (hp : InvP p) (hc : p.why = 0 → CanCh p.F c) (h : Chain f p.L p.F) : Chain f (doS p c).1.L (doS p c).1.F := by
  unfold doS
  by_cases h0 : p.why = 0
  · rw [if_neg (by omega)]
    by_cases hw : (doneG p.F c).2 = 0
    · rw [if_neg (by omega)]
      refine chain_snoc h ?_
      have := doneG_c p.F c hp.fit hp.right hp.pos (hc h0)
      rw [hw] at this
      exact this
    · rw [if_pos hw]
      exact h
  · rw [if_pos h0]
    exact h
theorem putS_chain {f : List Node} {p : PS} {h off cnt : Int} {v : List Int} (hp : InvP p) (hc : p.why = 0 → (replP (nodeAt p.F h).data off cnt v).2 = 0 → CanCh p.F (putC p.F h off cnt v)) (hch : Chain f p.L p.F) : Chain f (putS p h off cnt v).L (putS p h off cnt v).F := by
  unfold putS
  by_cases h1 : (replP (nodeAt p.F h).data off cnt v).2 = 0
  · rw [if_neg (by omega)]
    exact doS_chain hp (fun h0 => hc h0 h1) hch
  · rw [if_pos h1]
    exact hch
section
variable {f : List Node} {h off : Int} (hf : Fit f) (hr : rightP f) (hh : inR f h) (ht : textB (nodeAt f h).kind) (h0 : 0 ≤ off) (ho : off ≤ (nodeAt f h).data.length)
include hf hr hh ht h0 ho
end
/-- Replacing. -/
noncomputable def rpQ (f : List Node) (h off cnt : Int) (v : List Int) : PS := putS (pen0 f) h off cnt v
theorem data_hung {k : Int} (h : dataB k) : (traitsOf k).data = true := by
  rcases h with (h | h) | h | h <;> subst h <;> decide
theorem replP_ok {l : List Int} {off cnt : Int} {v : List Int} (h0 : 0 ≤ off) (h2 : 0 ≤ cnt) (h : (replP l off cnt v).2 = 0) : off ≤ l.length ∧ (l.length : Int) - (spTo l.length off cnt - off) + v.length ≤ 16384 ∧ replP l off cnt v = (replL l off (spTo l.length off cnt) v, 0) ∧ off ≤ spTo l.length off cnt ∧ spTo l.length off cnt ≤ l.length := by
  unfold replP at h ⊢
  split at h
  · cases h
  · rename_i h1
    split at h
    · cases h
    · rename_i h3
      rw [if_neg h1, if_neg h3]
      refine ⟨by omega, by omega, rfl, ?_, ?_⟩ <;> unfold spTo <;> omega
theorem rp_can {f : List Node} {h off cnt : Int} {v : List Int} (hf : Fit f) (hr : rightP f) (hh : inR f h) (hd : dataB (nodeAt f h).kind) (h0 : 0 ≤ off) (h2 : 0 ≤ cnt) (he : (replP (nodeAt f h).data off cnt v).2 = 0) : CanCh f (putC f h off cnt v) ∧ putC f h off cnt v = daCh h off (spTo (nodeAt f h).data.length off cnt - off) v := by
  obtain ⟨a1, a2, a3, a4, a5⟩ := replP_ok h0 h2 he
  have ec : putC f h off cnt v = daCh h off (spTo (nodeAt f h).data.length off cnt - off) v := by
    rw [putC_da, a3]
    congr 1
    unfold replL
    simp only [List.length_append, List.length_take, List.length_drop]
    omega
  refine ⟨?_, ec⟩
  rw [ec]
  exact .dat _ _ _ _ hh (data_hung hd) h0 (by omega) (by omega) (by omega) (by omega)
noncomputable def replA (f : List Node) (h off cnt : Int) (v : List Int) : AV := ansP (cfP f h false) (rpQ f h off cnt v)
/-- what comes of it. -/
structure ReplO (f : List Node) (h off cnt : Int) (v : List Int) (g : List Node) : Prop where
  fit : Fit g
  right : rightP g
  len : g.length = f.length
  node : ∀ k, nodeAt g k = if k = h then { nodeAt f h with data := replL (nodeAt f h).data off (spTo (nodeAt f h).data.length off cnt) v } else nodeAt f k
theorem repl_out {f : List Node} {h off cnt : Int} {v : List Int} (hf : Fit f) (hr : rightP f) (hh : inR f h) (hd : dataB (nodeAt f h).kind) (h0 : 0 ≤ off) (h2 : 0 ≤ cnt) (hw : (rpQ f h off cnt v).why = 0) : ReplO f h off cnt v (rpQ f h off cnt v).F ∧ (rpQ f h off cnt v).L = [putC f h off cnt v] ∧ Chain f (rpQ f h off cnt v).L (rpQ f h off cnt v).F := by
  have hc : (pen0 f).why = 0 → (replP (nodeAt (pen0 f).F h).data off cnt v).2 = 0 → CanCh (pen0 f).F (putC (pen0 f).F h off cnt v) := fun _ hre => (rp_can hf hr hh hd h0 h2 hre).1
  have hi := putS_inv (inv0 hf hr hh) hc
  have hch := putS_chain (f := f) (inv0 hf hr hh) hc rfl
  obtain ⟨_, hre, hdn, e⟩ := putS_ok hw
  have hre' : (replP (nodeAt f h).data off cnt v).2 = 0 := hre
  obtain ⟨_, ec⟩ := rp_can hf hr hh hd h0 h2 hre'
  obtain ⟨a1, a2, a3, a4, a5⟩ := replP_ok h0 h2 hre'
  have e' : rpQ f h off cnt v = _ := e
  have eF : (rpQ f h off cnt v).F = datF f h (replL (nodeAt f h).data off (spTo (nodeAt f h).data.length off cnt) v) := by
    rw [e']
    have hdn' : (doneG f (putC f h off cnt v)).2 = 0 := hdn
    show (doneG f (putC f h off cnt v)).1 = _
    rw [ec] at hdn' ⊢
    have ed : doneG f (daCh h off (spTo (nodeAt f h).data.length off cnt - off) v) = doneW f h (repD (atI f (h - 1)).data off (spTo (nodeAt f h).data.length off cnt - off) v) := rfl
    rw [ed] at hdn' ⊢
    rw [← node_in hh, show repD (nodeAt f h).data off (spTo (nodeAt f h).data.length off cnt - off) v = replL (nodeAt f h).data off (spTo (nodeAt f h).data.length off cnt) v by unfold repD replL; rw [show off + (spTo (nodeAt f h).data.length off cnt - off) = spTo (nodeAt f h).data.length off cnt by omega]] at hdn' ⊢
    unfold doneW at hdn' ⊢
    split at hdn'
    · rename_i h5; rw [if_pos h5]
    · cases hdn'
  refine ⟨⟨hi.fit, hi.right, ?_, fun k => ?_⟩, ?_, hch⟩
  · rw [eF]; unfold datF; rw [upd_len]
  · rw [eF, node_dat hh]
  · rw [e']; rfl
end Go.Proofs.YtmhejcnaanocpaaGreat.A
namespace Go.Proofs.YtmhejcnaanocpaaGreat.A
set_option linter.unusedVariables false
set_option linter.unusedSimpArgs false
set_option maxRecDepth 100000
set_option maxHeartbeats 4000000
end Go.Proofs.YtmhejcnaanocpaaGreat.A
namespace Go.Proofs.YtmhejcnaanocpaaGreat.A
set_option linter.unusedVariables false
set_option linter.unusedSimpArgs false
set_option maxRecDepth 100000
set_option maxHeartbeats 4000000
theorem cl66_c (a b n : Int) : GenC Tryz.prog 66 [⟨25, 1, [[u32 a]]⟩, ⟨25, 1, [[u32 b]]⟩] [u32 n, .ptr 0 1 0 0, .ptr 1 1 0 0] (.tup [u32 a, u32 b]) [⟨25, 1, [[u32 a]]⟩, ⟨25, 1, [[u32 b]]⟩] := by
  refine GenC.mk tabs Tryz.func66 8 [.tmp 4, .tmp 5] rfl rfl rfl rfl rfl ?_; intro w0 X γ κ
  (repeat' (first | ((with_reducible show AL _ _ _ _ _); first | (refine AL.step tabs rfl ?_; try dsimp only [len, List.nil_append, List.cons_append]) | refine AL.nil ?_) | ((with_reducible show DQ _ _ _ _ _ _); first | refine DQ.stepc (LS.val tabs rfl rfl rfl) rfl rfl rfl rfl rfl ?_ | refine DQ.stepc (LS.skip rfl rfl) rfl rfl rfl rfl rfl ?_ | refine DQ.nilM (by kernel_rfl) ?_) | refine AW.seq ?_ | refine AW.region ?_ | refine Then.norm ?_ | refine AW.skip ?_ | refine AW.ret ?_ | refine Then.ret ?_ | refine AW.drawW mixed (by kernel_rfl) ?_))
  exact RG.ret 2 rfl rfl rfl rfl rfl (by simp [cxG])
theorem put66no_c (f : List Node) (h : Int) (v : List Int) (a b : Int) (hf : Fit f) (he : cfP f h false ≠ 0) : GenC Tryz.prog 61 [⟨25, 1, [[u32 a]]⟩, ⟨25, 1, [[u32 b]]⟩] [fav f, iav h, .imm (.sl (v.map u16)), .fn 66 [.ptr 0 1 0 0, .ptr 1 1 0 0]] (.tup [.agg [.nils], .nils, iav (cfP f h false)]) [⟨25, 1, [[u32 a]]⟩, ⟨25, 1, [[u32 b]]⟩] := by
  have c1 := cfault_c f h false hf
  obtain ⟨w, hw⟩ : ∃ w, w = cfP f h false := ⟨_, rfl⟩
  rw [← hw] at c1 he ⊢
  refine GenC.mk tabs Tryz.func61 46 [.cell 8 24, .tmp 9, .tmp 10] rfl rfl rfl rfl rfl ?_; intro w0 X γ κ
  (repeat' (first | ((with_reducible show AL _ _ _ _ _); first | (refine AL.step tabs rfl ?_; try dsimp only [len, List.nil_append, List.cons_append]) | refine AL.op rfl (OpOK.call rfl rfl rfl rfl c1 rfl) ?_ | refine AL.nil ?_) | ((with_reducible show DQ _ _ _ _ _ _); first | refine DQ.stepc (LS.store (i := ti24) (v := .agg [.nils]) (ty := 24) (sz := 1) (rows := [ti24.zero]) (r := ti24.zero) tabs rfl rfl rfl rfl rfl rfl rfl rfl rfl rfl (Nat.le_of_ble_eq_true rfl) rfl) rfl rfl rfl rfl rfl ?_ | refine DQ.stepc (LS.val tabs rfl rfl rfl) rfl rfl rfl rfl rfl ?_ | refine DQ.stepc (LS.skip rfl rfl) rfl rfl rfl rfl rfl ?_ | refine DQ.nilM (by kernel_rfl) ?_) | refine AW.seq ?_ | refine AW.region ?_ | refine Then.norm ?_ | refine AW.skip ?_ | refine AW.condT rfl ?_ | refine AW.condF rfl ?_ | (refine AW.cond rfl (fun hc => ?_) (fun hc => ?_) <;> (try simp only [hsx] at hc) <;> (try first | (exfalso; omega) | contradiction | (exfalso; simp [dec_eq] at hc; done))) | refine AW.ret ?_ | refine Then.ret ?_ | refine AW.drawW mixed (by kernel_rfl) ?_))
  all_goals first
    | (exfalso; exact he hc)
    | exact RG.ret 2 rfl rfl rfl rfl rfl (by simp [cxG])
theorem put66err_c (f : List Node) (q : PS) (bb : Bool) (h : Int) (v : List Int) (a b : Int) (hf : Fit f) (a0 : 0 ≤ a) (a1 : a < 4294967296) (b0 : 0 ≤ b) (b1 : b < 4294967296) (hv : v.length ≤ 1000000000) (he : cfP f h false = 0) (H : PutR h a b v (pen0 f) q bb) (hw : q.why ≠ 0) : GenC Tryz.prog 61 [⟨25, 1, [[u32 a]]⟩, ⟨25, 1, [[u32 b]]⟩] [fav f, iav h, .imm (.sl (v.map u16)), .fn 66 [.ptr 0 1 0 0, .ptr 1 1 0 0]] (.tup [.agg [.nils], .nils, iav q.why]) [⟨25, 1, [[u32 a]]⟩, ⟨25, 1, [[u32 b]]⟩] := by
  have c1 := cfault_c f h false hf
  rw [he] at c1
  have hl := hf.len
  have hdl := (hf.at h).data
  have c2 := treeAt_c f h hl
  have hmn : ((nodeAt f h).data.map u16).length = (nodeAt f h).data.length := List.length_map _
  have c3 := put0_c (pen0 f) q h a b v bb hf (by simp [pen0]) a0 a1 b0 b1 hv H
  have c4 := end0_c q hw
  obtain ⟨n, hn⟩ : ∃ n, n = nodeAt f h := ⟨_, rfl⟩
  rw [← hn] at c2 hdl hmn
  unfold penB pen0 at c3
  refine GenC.mk tabs Tryz.func61 46 [.cell 8 24, .tmp 9, .tmp 10] rfl rfl rfl rfl rfl ?_; intro w0 X γ κ
  refine AW.reserve 112 3 rfl ?_
  (repeat' (first | ((with_reducible show AL _ _ _ _ _); first | refine AL.op rfl (OpOK.toU32 tabs rfl rfl rfl rfl rfl rfl (by omega) (by omega)) ?_ | (refine AL.step tabs rfl ?_; try dsimp only [len, List.nil_append, List.cons_append]) | refine AL.op rfl (OpOK.call rfl rfl rfl rfl c1 rfl) ?_ | refine AL.callG [2] 5 rfl rfl rfl rfl rfl (caps := []) rfl (on_c f) rfl rfl rfl rfl rfl rfl rfl rfl (hpA := [⟨112, 3, [[.imm (.sl (f.map Node.iv)), .os 6 0, iav 0]]⟩, ⟨24, 1, [[.imm (.sl (f.map Node.iv))]]⟩, ⟨58, 36, []⟩]) rfl (r' := .ptr 2 1 0 0) rfl rfl ?_; try dsimp only [setAll, List.drop_succ_cons, List.drop_zero, List.drop_nil, List.set_cons_succ, List.set_cons_zero, List.cons_append, List.nil_append, List.append_nil, len] | refine AL.op rfl (OpOK.call rfl rfl rfl rfl c2 rfl) ?_ | refine AL.callG [0, 1] 7 rfl rfl rfl rfl (caps := [.ptr 0 1 0 0, .ptr 1 1 0 0]) rfl rfl (cl66_c a b _) rfl rfl rfl rfl rfl rfl rfl rfl (hpA := [⟨25, 1, [[u32 a]]⟩, ⟨25, 1, [[u32 b]]⟩]) rfl (r' := .tup [u32 a, u32 b]) rfl rfl ?_ | refine AL.callG [2, 6] 7 rfl rfl rfl rfl rfl (caps := []) rfl c3 rfl (by simp only [List.map_cons, List.map_nil, renC]; rfl) rfl rfl (by simp only [List.all_cons, List.all_nil, Bool.and_true, Bool.and_eq_true]; exact ⟨⟨rfl, rfl, rfl⟩, rowC_sc _ _⟩) rfl (by simp only [List.all_cons, List.all_nil, Bool.and_true, Bool.and_eq_true]; exact ⟨⟨rfl, rfl, rfl⟩, rowC_sc _ _⟩) rfl (hpA := [⟨112, 3, [[.imm (.sl ((q).F.map Node.iv)), .os 6 (q).L.length, iav (q).why]]⟩, ⟨58, 36, (q).L.map rowC⟩]) (by simp only [List.map_cons, List.map_nil, renC]; rfl) (r' := bav bb) rfl rfl ?_; try dsimp only [setAll, List.drop_succ_cons, List.drop_zero, List.drop_nil, List.set_cons_succ, List.set_cons_zero, List.cons_append, List.nil_append, List.append_nil, len, Nat.reduceAdd] | refine AL.callG [2, 6] 7 rfl rfl rfl rfl rfl (caps := []) rfl c4 rfl (by simp only [List.map_cons, List.map_nil, renC]; rfl) rfl rfl (by simp only [List.all_cons, List.all_nil, Bool.and_true, Bool.and_eq_true]; exact ⟨⟨rfl, rfl, rfl⟩, rowC_sc _ _⟩) rfl (by simp only [List.all_cons, List.all_nil, Bool.and_true, Bool.and_eq_true]; exact ⟨⟨rfl, rfl, rfl⟩, rowC_sc _ _⟩) rfl (hpA := [⟨112, 3, [[.imm (.sl ((q).F.map Node.iv)), .os 6 (q).L.length, iav (q).why]]⟩, ⟨58, 36, (q).L.map rowC⟩]) (by simp only [List.map_cons, List.map_nil, renC]; rfl) (r' := .tup [.agg [.nils], .nils, iav q.why]) rfl rfl ?_; try dsimp only [setAll, List.drop_succ_cons, List.drop_zero, List.drop_nil, List.set_cons_succ, List.set_cons_zero, List.cons_append, List.nil_append, List.append_nil, len, Nat.reduceAdd] | refine AL.nil ?_) | ((with_reducible show DQ _ _ _ _ _ _); first | refine DQ.stepc (LS.store (i := ti24) (v := .agg [.nils]) (ty := 24) (sz := 1) (rows := [ti24.zero]) (r := ti24.zero) tabs rfl rfl rfl rfl rfl rfl rfl rfl rfl rfl (Nat.le_of_ble_eq_true rfl) rfl) rfl rfl rfl rfl rfl ?_ | refine DQ.stepc (LS.val tabs rfl rfl rfl) rfl rfl rfl rfl rfl ?_ | refine DQ.stepc (LS.skip rfl rfl) rfl rfl rfl rfl rfl ?_ | refine DQ.nilM (by kernel_rfl) ?_) | refine AW.seq ?_ | refine AW.region ?_ | refine Then.norm ?_ | refine AW.skip ?_ | refine AW.condT rfl ?_ | refine AW.condF rfl ?_ | (refine AW.cond rfl (fun hc => ?_) (fun hc => ?_) <;> (try simp only [hsx] at hc) <;> (try first | (exfalso; omega) | contradiction | (exfalso; simp [dec_eq] at hc; done))) | refine AW.ret ?_ | refine Then.ret ?_ | refine AW.drawW mixed (by kernel_rfl) ?_))
  exact RG.ret 2 rfl rfl rfl rfl rfl (by simp [cxG])
theorem put66_c (f : List Node) (q : PS) (bb : Bool) (h : Int) (v : List Int) (a b : Int) (hf : Fit f) (a0 : 0 ≤ a) (a1 : a < 4294967296) (b0 : 0 ≤ b) (b1 : b < 4294967296) (hv : v.length ≤ 1000000000) (he : cfP f h false = 0) (H : PutR h a b v (pen0 f) q bb) (hw : q.why = 0) (hL : q.L.length ≤ 1000000) (hL0 : q.L ≠ []) (hfc : ∀ i : Int, 0 ≤ i → i < q.L.length → FitC (atI q.L i)) : GenC Tryz.prog 61 [⟨25, 1, [[u32 a]]⟩, ⟨25, 1, [[u32 b]]⟩] [fav f, iav h, .imm (.sl (v.map u16)), .fn 66 [.ptr 0 1 0 0, .ptr 1 1 0 0]] (.tup [fav q.F, .os 8 q.L.length, iav 0]) [⟨25, 1, [[u32 a]]⟩, ⟨25, 1, [[u32 b]]⟩, ⟨112, 3, [[.imm (.sl ((q).F.map Node.iv)), .os 6 (q).L.length, iav (q).why]]⟩, ⟨24, 1, [[.imm (.sl (f.map Node.iv))]]⟩, ⟨24, 1, [[.imm (.sl ((q).F.map Node.iv))]]⟩, ⟨24, 1, [[.imm (.sl (f.map Node.iv))]]⟩, ⟨58, 36, (q).L.map rowC⟩, ⟨24, 1, [[.imm (.sl ((q).F.map Node.iv))]]⟩, ⟨58, 36, (q).L.map rowC⟩] := by
  have c1 := cfault_c f h false hf
  rw [he] at c1
  have hl := hf.len
  have hdl := (hf.at h).data
  have c2 := treeAt_c f h hl
  have hmn : ((nodeAt f h).data.map u16).length = (nodeAt f h).data.length := List.length_map _
  have c3 := put0_c (pen0 f) q h a b v bb hf (by simp [pen0]) a0 a1 b0 b1 hv H
  have c4 := end_c q hw hL hL0 hfc
  obtain ⟨n, hn⟩ : ∃ n, n = nodeAt f h := ⟨_, rfl⟩
  rw [← hn] at c2 hdl hmn
  unfold penB pen0 at c3
  refine GenC.mk tabs Tryz.func61 46 [.cell 8 24, .tmp 9, .tmp 10] rfl rfl rfl rfl rfl ?_; intro w0 X γ κ
  refine AW.reserve 112 3 rfl ?_
  (repeat' (first | ((with_reducible show AL _ _ _ _ _); first | refine AL.op rfl (OpOK.toU32 tabs rfl rfl rfl rfl rfl rfl (by omega) (by omega)) ?_ | (refine AL.step tabs rfl ?_; try dsimp only [len, List.nil_append, List.cons_append]) | refine AL.op rfl (OpOK.call rfl rfl rfl rfl c1 rfl) ?_ | refine AL.callG [2] 5 rfl rfl rfl rfl rfl (caps := []) rfl (on_c f) rfl rfl rfl rfl rfl rfl rfl rfl (hpA := [⟨112, 3, [[.imm (.sl (f.map Node.iv)), .os 6 0, iav 0]]⟩, ⟨24, 1, [[.imm (.sl (f.map Node.iv))]]⟩, ⟨58, 36, []⟩]) rfl (r' := .ptr 2 1 0 0) rfl rfl ?_; try dsimp only [setAll, List.drop_succ_cons, List.drop_zero, List.drop_nil, List.set_cons_succ, List.set_cons_zero, List.cons_append, List.nil_append, List.append_nil, len] | refine AL.op rfl (OpOK.call rfl rfl rfl rfl c2 rfl) ?_ | refine AL.callG [0, 1] 7 rfl rfl rfl rfl (caps := [.ptr 0 1 0 0, .ptr 1 1 0 0]) rfl rfl (cl66_c a b _) rfl rfl rfl rfl rfl rfl rfl rfl (hpA := [⟨25, 1, [[u32 a]]⟩, ⟨25, 1, [[u32 b]]⟩]) rfl (r' := .tup [u32 a, u32 b]) rfl rfl ?_ | refine AL.callG [2, 6] 7 rfl rfl rfl rfl rfl (caps := []) rfl c3 rfl (by simp only [List.map_cons, List.map_nil, renC]; rfl) rfl rfl (by simp only [List.all_cons, List.all_nil, Bool.and_true, Bool.and_eq_true]; exact ⟨⟨rfl, rfl, rfl⟩, rowC_sc _ _⟩) rfl (by simp only [List.all_cons, List.all_nil, Bool.and_true, Bool.and_eq_true]; exact ⟨⟨rfl, rfl, rfl⟩, rowC_sc _ _⟩) rfl (hpA := [⟨112, 3, [[.imm (.sl ((q).F.map Node.iv)), .os 6 (q).L.length, iav (q).why]]⟩, ⟨58, 36, (q).L.map rowC⟩]) (by simp only [List.map_cons, List.map_nil, renC]; rfl) (r' := bav bb) rfl rfl ?_; try dsimp only [setAll, List.drop_succ_cons, List.drop_zero, List.drop_nil, List.set_cons_succ, List.set_cons_zero, List.cons_append, List.nil_append, List.append_nil, len, Nat.reduceAdd] | refine AL.callG [2, 6] 7 rfl rfl rfl rfl rfl (caps := []) rfl c4 rfl (by simp only [List.map_cons, List.map_nil, renC]; rfl) rfl rfl (by simp only [List.all_cons, List.all_nil, Bool.and_true, Bool.and_eq_true]; exact ⟨⟨rfl, rfl, rfl⟩, rowC_sc _ _⟩) rfl (by simp only [List.all_cons, List.all_nil, Bool.and_true, Bool.and_eq_true]; exact ⟨⟨rfl, rfl, rfl⟩, rowC_sc _ _, rfl, rowC_sc _ _⟩) rfl (hpA := [⟨112, 3, [[.imm (.sl ((q).F.map Node.iv)), .os 6 (q).L.length, iav (q).why]]⟩, ⟨58, 36, (q).L.map rowC⟩, ⟨24, 1, [[.imm (.sl ((q).F.map Node.iv))]]⟩, ⟨58, 36, (q).L.map rowC⟩]) (by simp only [List.map_cons, List.map_nil, renC]; rfl) (r' := .tup [fav q.F, .os 8 q.L.length, iav 0]) rfl rfl ?_; try dsimp only [setAll, List.drop_succ_cons, List.drop_zero, List.drop_nil, List.set_cons_succ, List.set_cons_zero, List.cons_append, List.nil_append, List.append_nil, len, Nat.reduceAdd] | refine AL.nil ?_) | ((with_reducible show DQ _ _ _ _ _ _); first | refine DQ.stepc (LS.store (i := ti24) (v := fav q.F) (ty := 24) (sz := 1) (rows := [ti24.zero]) (r := ti24.zero) tabs rfl rfl rfl rfl rfl rfl rfl rfl rfl rfl (Nat.le_of_ble_eq_true rfl) rfl) rfl rfl rfl rfl rfl ?_ | refine DQ.stepc (LS.val tabs rfl rfl rfl) rfl rfl rfl rfl rfl ?_ | refine DQ.stepc (LS.skip rfl rfl) rfl rfl rfl rfl rfl ?_ | refine DQ.nilM (by kernel_rfl) ?_) | refine AW.seq ?_ | refine AW.region ?_ | refine Then.norm ?_ | refine AW.skip ?_ | refine AW.condT rfl ?_ | refine AW.condF rfl ?_ | (refine AW.cond rfl (fun hc => ?_) (fun hc => ?_) <;> (try simp only [hsx] at hc) <;> (try first | (exfalso; omega) | contradiction | (exfalso; simp [dec_eq] at hc; done))) | refine AW.ret ?_ | refine Then.ret ?_ | refine AW.drawW mixed (by kernel_rfl) ?_))
  exact RG.ret 9 rfl rfl rfl rfl (by simp only [List.all_cons, List.all_nil, Bool.and_true, Bool.and_eq_true]; exact ⟨rfl, rfl, ⟨rfl, rfl, rfl⟩, rfl, rfl, rfl, rowC_sc _ _, rfl, rowC_sc _ _⟩) (by simp [cxG])
theorem delete_c (f : List Node) (q : PS) (bb : Bool) (h : Int) (a b : Int) (hf : Fit f) (a0 : 0 ≤ a) (a1 : a < 4294967296) (b0 : 0 ≤ b) (b1 : b < 4294967296) (H : cfP f h false = 0 → PutR h a b [] (pen0 f) q bb) : PureC Tryz.prog 23 [fav f, iav h, u32 a, u32 b] (ansP (cfP f h false) q) := by
  unfold ansP
  by_cases he : cfP f h false = 0
  · rw [if_neg (by omega)]
    have H := H he
    by_cases hw : q.why = 0
    · rw [if_neg (by omega)]
      have hLe := H.len rfl hw
      rw [show (pen0 f).L = [] from rfl, List.nil_append] at hLe
      have c1 := put66_c f q bb h [] a b hf a0 a1 b0 b1 (by simp) he H hw (by rw [hLe]; simp) (by rw [hLe]; simp) (by
        rw [hLe]
        intro i i0 i1
        have : i = 0 := by simp at i1; omega
        subst this
        exact putC_fit _ _ _ _ _ (by simp))
      refine PureC.mk tabs Tryz.func23 18 [.cell 8 24, .tmp 9, .tmp 10] rfl rfl rfl rfl rfl ?_; intro w0 X
      (repeat' (first | ((with_reducible show AL _ _ _ _ _); first | (refine AL.step tabs rfl ?_; try dsimp only [len, List.nil_append, List.cons_append]) | refine AL.callG [1, 2] 4 rfl rfl rfl rfl rfl (caps := []) rfl (GenC.cv (ab := [fav f, iav h, .nils, .fn 66 [.ptr 0 1 0 0, .ptr 1 1 0 0]]) c1 rfl) rfl rfl rfl rfl rfl rfl (by simp only [List.all_cons, List.all_nil, Bool.and_true, Bool.and_eq_true]; exact ⟨rfl, rfl, ⟨rfl, rfl, rfl⟩, rfl, rfl, rfl, rowC_sc _ _, rfl, rowC_sc _ _⟩) rfl (hpA := [⟨25, 1, [[u32 a]]⟩, ⟨25, 1, [[u32 b]]⟩, ⟨112, 3, [[.imm (.sl ((q).F.map Node.iv)), .os 8 (q).L.length, iav (q).why]]⟩, ⟨24, 1, [[.imm (.sl (f.map Node.iv))]]⟩, ⟨24, 1, [[.imm (.sl ((q).F.map Node.iv))]]⟩, ⟨24, 1, [[.imm (.sl (f.map Node.iv))]]⟩, ⟨58, 36, (q).L.map rowC⟩, ⟨24, 1, [[.imm (.sl ((q).F.map Node.iv))]]⟩, ⟨58, 36, (q).L.map rowC⟩]) (by simp only [List.map_cons, List.map_nil, renC]; rfl) (r' := .tup [fav q.F, .os 10 q.L.length, iav 0]) rfl rfl ?_; try dsimp only [setAll, List.drop_succ_cons, List.drop_zero, List.drop_nil, List.set_cons_succ, List.set_cons_zero, List.cons_append, List.nil_append, List.append_nil, len, Nat.reduceAdd] | refine AL.nil ?_) | ((with_reducible show DQ _ _ _ _ _ _); first | refine DQ.stepc (LS.store (i := ti24) (v := fav q.F) (ty := 24) (sz := 1) (rows := [ti24.zero]) (r := ti24.zero) tabs rfl rfl rfl rfl rfl rfl rfl rfl rfl rfl (Nat.le_of_ble_eq_true rfl) rfl) rfl rfl rfl rfl rfl ?_ | refine DQ.stepc (LS.val tabs rfl rfl rfl) rfl rfl rfl rfl rfl ?_ | refine DQ.stepc (LS.skip rfl rfl) rfl rfl rfl rfl rfl ?_ | refine DQ.nilM (by kernel_rfl) ?_) | refine AW.seq ?_ | refine AW.region ?_ | refine Then.norm ?_ | refine AW.skip ?_ | refine AW.ret ?_ | refine Then.ret ?_ | refine AW.drawW mixed (by kernel_rfl) ?_))
      exact RQ.ret rfl (Fz.tup (.cons (Fz.im rfl) (.cons (Fz.os (b := ⟨58, 36, q.L.map rowC⟩) (rows := q.L.map Change.iv) rfl (List.length_map _).symm (by rw [List.map_map]; rfl)) (.cons (Fz.im rfl) .nil))))
    · rw [if_pos hw]
      have c1 := put66err_c f q bb h [] a b hf a0 a1 b0 b1 (by simp) he H hw
      refine PureC.mk tabs Tryz.func23 18 [.cell 8 24, .tmp 9, .tmp 10] rfl rfl rfl rfl rfl ?_; intro w0 X
      (repeat' (first | ((with_reducible show AL _ _ _ _ _); first | (refine AL.step tabs rfl ?_; try dsimp only [len, List.nil_append, List.cons_append]) | refine AL.callG [1, 2] 4 rfl rfl rfl rfl rfl (caps := []) rfl (GenC.cv (ab := [fav f, iav h, .nils, .fn 66 [.ptr 0 1 0 0, .ptr 1 1 0 0]]) c1 rfl) rfl rfl rfl rfl rfl rfl rfl rfl (hpA := [⟨25, 1, [[u32 a]]⟩, ⟨25, 1, [[u32 b]]⟩]) rfl (r' := .tup [.agg [.nils], .nils, iav q.why]) rfl rfl ?_; try dsimp only [setAll, List.drop_succ_cons, List.drop_zero, List.drop_nil, List.set_cons_succ, List.set_cons_zero, List.cons_append, List.nil_append, List.append_nil, len, Nat.reduceAdd] | refine AL.nil ?_) | ((with_reducible show DQ _ _ _ _ _ _); first | refine DQ.stepc (LS.store (i := ti24) (v := .agg [.nils]) (ty := 24) (sz := 1) (rows := [ti24.zero]) (r := ti24.zero) tabs rfl rfl rfl rfl rfl rfl rfl rfl rfl rfl (Nat.le_of_ble_eq_true rfl) rfl) rfl rfl rfl rfl rfl ?_ | refine DQ.stepc (LS.val tabs rfl rfl rfl) rfl rfl rfl rfl rfl ?_ | refine DQ.stepc (LS.skip rfl rfl) rfl rfl rfl rfl rfl ?_ | refine DQ.nilM (by kernel_rfl) ?_) | refine AW.seq ?_ | refine AW.region ?_ | refine Then.norm ?_ | refine AW.skip ?_ | refine AW.ret ?_ | refine Then.ret ?_ | refine AW.drawW mixed (by kernel_rfl) ?_))
      exact RQ.fin rfl rfl rfl
  · rw [if_pos he]
    have c1 := put66no_c f h [] a b hf he
    refine PureC.mk tabs Tryz.func23 18 [.cell 8 24, .tmp 9, .tmp 10] rfl rfl rfl rfl rfl ?_; intro w0 X
    (repeat' (first | ((with_reducible show AL _ _ _ _ _); first | (refine AL.step tabs rfl ?_; try dsimp only [len, List.nil_append, List.cons_append]) | refine AL.callG [1, 2] 4 rfl rfl rfl rfl rfl (caps := []) rfl (GenC.cv (ab := [fav f, iav h, .nils, .fn 66 [.ptr 0 1 0 0, .ptr 1 1 0 0]]) c1 rfl) rfl rfl rfl rfl rfl rfl rfl rfl (hpA := [⟨25, 1, [[u32 a]]⟩, ⟨25, 1, [[u32 b]]⟩]) rfl (r' := .tup [.agg [.nils], .nils, iav (cfP f h false)]) rfl rfl ?_; try dsimp only [setAll, List.drop_succ_cons, List.drop_zero, List.drop_nil, List.set_cons_succ, List.set_cons_zero, List.cons_append, List.nil_append, List.append_nil, len, Nat.reduceAdd] | refine AL.nil ?_) | ((with_reducible show DQ _ _ _ _ _ _); first | refine DQ.stepc (LS.store (i := ti24) (v := .agg [.nils]) (ty := 24) (sz := 1) (rows := [ti24.zero]) (r := ti24.zero) tabs rfl rfl rfl rfl rfl rfl rfl rfl rfl rfl (Nat.le_of_ble_eq_true rfl) rfl) rfl rfl rfl rfl rfl ?_ | refine DQ.stepc (LS.val tabs rfl rfl rfl) rfl rfl rfl rfl rfl ?_ | refine DQ.stepc (LS.skip rfl rfl) rfl rfl rfl rfl rfl ?_ | refine DQ.nilM (by kernel_rfl) ?_) | refine AW.seq ?_ | refine AW.region ?_ | refine Then.norm ?_ | refine AW.skip ?_ | refine AW.ret ?_ | refine Then.ret ?_ | refine AW.drawW mixed (by kernel_rfl) ?_))
    exact RQ.fin rfl rfl rfl
end Go.Proofs.YtmhejcnaanocpaaGreat.A
