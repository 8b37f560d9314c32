/- Contracts: package forest, attributes. -/
import Derived.Test.YteijifoobaoclaaGreatFnB
namespace Go.Proofs.YteijifoobaoclaaGreat.A
set_option linter.unusedVariables false
set_option linter.unusedSimpArgs false
set_option maxRecDepth 100000
set_option maxHeartbeats 4000000
noncomputable def attrsGo (seen : List (ByteArray × ByteArray)) : List Attr → Bool
  | [] => true
  | a :: r => if namedB a.name = false then false else if 4096 < a.value.size then false else if dec (key a.name ∈ seen) = true then false else attrsGo (seen ++ [key a.name]) r
noncomputable def attrsB (l : List Attr) : Bool := decide (l.length ≤ 64) && attrsGo [] l
def akf (p : ByteArray × ByteArray) : List IV := [.str p.1, .str p.2]
theorem attributes_c (l : List Attr) (hl : l.length ≤ 1000000000) : PureC Tryz.prog 104 [.imm (.sl (l.map Attr.iv))] (bav (attrsB l)) := by
  refine PureC.mk tabs Tryz.func104 43 [.tmp 2] rfl rfl rfl rfl rfl ?_; intro w0 X
  (repeat' (first | ((with_reducible show AL _ _ _ _ _); first | (refine AL.step tabs rfl ?_; try dsimp only [len, List.nil_append, List.cons_append]) | refine AL.makeMap rfl rfl rfl (fun g hg => ?_) | refine AL.nil ?_ | (refine AL.gsplitE rfl rfl rfl (fun hc => ?_) (fun hc => ?_) <;> (fail_if_success (exact absurd hc (by decide))) <;> (try simp only [hsx] at hc) <;> (try first | (exfalso; omega) | contradiction | (exfalso; simp [dec_eq] at hc; done))) | (refine AL.op rfl (OpOK.ari64 rfl rfl rfl rfl rfl (by omega) (by omega)) ?_) | (refine AL.op rfl (OpOK.index_map tabs rfl rfl rfl rfl rfl rfl rfl (fun _ => rfl) (by decide) (by omega) (by omega)) ?_) | (refine AL.op rfl (OpOK.eqs rfl rfl rfl rfl eqt45 rfl rfl) ?_) | (refine AL.op rfl (OpOK.eqs rfl rfl rfl rfl eqt68 rfl rfl) ?_) | (refine AL.op rfl (OpOK.eqs rfl rfl rfl rfl eqt146 rfl rfl) ?_) | (refine AL.op rfl (OpOK.eqs rfl rfl rfl rfl eqt151 rfl rfl) ?_)) | ((with_reducible show DQ _ _ _ _ _ _); first | refine DQ.stepc (LS.val tabs rfl rfl rfl) rfl rfl rfl rfl rfl ?_ | refine DQ.stepc (LS.skip rfl rfl) rfl rfl rfl rfl rfl ?_ | refine DQ.nilM (by kernel_rfl) ?_ | refine DQ.stepc (LS.ari64 rfl rfl rfl rfl rfl rfl (by omega) (by omega)) rfl rfl rfl rfl rfl ?_ | refine DQ.stepc (LS.index_map tabs rfl rfl rfl rfl rfl rfl rfl rfl (fun _ => rfl) (by decide) (by omega) (by omega)) rfl rfl rfl rfl rfl ?_ | (refine DQ.gsplitE rfl rfl rfl (fun hc => ?_) (fun hc => ?_) <;> (fail_if_success (exact absurd hc (by decide))) <;> (try simp only [hsx] at hc) <;> (try first | (exfalso; omega) | contradiction | (exfalso; simp [dec_eq] at hc; done))) | refine DQ.stepc (LS.eqs rfl rfl rfl rfl rfl eqt45 rfl rfl) rfl rfl rfl rfl rfl ?_ | refine DQ.stepc (LS.eqs rfl rfl rfl rfl rfl eqt68 rfl rfl) rfl rfl rfl rfl rfl ?_ | refine DQ.stepc (LS.eqs rfl rfl rfl rfl rfl eqt146 rfl rfl) rfl rfl rfl rfl rfl ?_ | refine DQ.stepc (LS.eqs rfl rfl rfl rfl rfl eqt151 rfl rfl) rfl rfl rfl rfl rfl ?_) | refine AW.seq ?_ | refine AW.region ?_ | refine Then.norm ?_ | refine AW.skip ?_ | refine AW.block ?_ | refine InB.norm ?_ | refine AW.condT rfl ?_ | refine AW.condF rfl ?_ | (refine AW.cond rfl (fun hc => ?_) (fun hc => ?_) <;> (try simp only [hsx] at hc) <;> (try first | (exfalso; omega) | contradiction | (exfalso; simp [dec_eq] at hc; done))) | refine AW.ret ?_ | refine AW.exit ?_ | refine Then.ret ?_ | refine Then.exit ?_ | refine InB.ret ?_ | refine InB.here ?_ | refine InB.off rfl ?_ | refine Rnd.ret ?_ | refine Rnd.exit ?_ | refine AW.drawW mixed (by kernel_rfl) ?_))
  · refine RQ.fin rfl rfl (congrArg bav ?_)
    unfold attrsB
    rw [show decide (l.length ≤ 64) = false by simp; omega]; rfl
  refine AW.loop (α := Int) (fun i => ⟨[(3, .mp g (((l.take i.toNat).map fun a => key a.name).map akf) (((l.take i.toNat).map fun a => key a.name).map fun _ => [.int .i64 1])), (11, .imm (.sl (l.map Attr.iv))), (12, iav (l.map Attr.iv).length), (13, iav i)], []⟩) (fun i => 0 ≤ i ∧ i ≤ l.length ∧ attrsGo ((l.take i.toNat).map fun a => key a.name) (l.drop i.toNat) = attrsGo [] l) (fun i => (l.length - i).toNat) 0 (Le.cut 0 rfl ⟨rfl, rfl, rfl, rfl, trivial⟩ rfl rfl (Nat.zero_le _)) ⟨by omega, by omega, rfl⟩ ?_
  intro i ⟨h0, h1, h2⟩
  (repeat' (first | ((with_reducible show AL _ _ _ _ _); first | (refine AL.step tabs rfl ?_; try dsimp only [len, List.nil_append, List.cons_append]) | refine AL.op rfl (OpOK.call rfl rfl rfl rfl (keyOf_c (atI l i).name) rfl) ?_ | refine AL.op rfl (OpOK.call rfl rfl rfl rfl (named_c (atI l i).name) rfl) ?_ | refine AL.op rfl (OpOK.look1 (kf := akf) key151 Tryz.underlying149 zero3 rfl rfl rfl rfl rfl (q := key (atI l i).name) rfl) ?_ | refine AL.nil ?_ | (refine AL.gsplitE rfl rfl rfl (fun hc => ?_) (fun hc => ?_) <;> (fail_if_success (exact absurd hc (by decide))) <;> (try simp only [hsx] at hc) <;> (try first | (exfalso; omega) | contradiction | (exfalso; simp [dec_eq] at hc; done))) | (refine AL.op rfl (OpOK.ari64 rfl rfl rfl rfl rfl (by omega) (by omega)) ?_) | (refine AL.op rfl (OpOK.index_map tabs rfl rfl rfl rfl rfl rfl rfl (fun _ => rfl) (by decide) (by omega) (by omega)) ?_) | (refine AL.op rfl (OpOK.eqs rfl rfl rfl rfl eqt45 rfl rfl) ?_) | (refine AL.op rfl (OpOK.eqs rfl rfl rfl rfl eqt68 rfl rfl) ?_) | (refine AL.op rfl (OpOK.eqs rfl rfl rfl rfl eqt146 rfl rfl) ?_) | (refine AL.op rfl (OpOK.eqs rfl rfl rfl rfl eqt151 rfl rfl) ?_)) | ((with_reducible show DQ _ _ _ _ _ _); first | refine DQ.stepc (LS.val tabs rfl rfl rfl) rfl rfl rfl rfl rfl ?_ | refine DQ.stepc (LS.skip rfl rfl) rfl rfl rfl rfl rfl ?_ | refine DQ.nilM (by kernel_rfl) ?_ | refine DQ.stepc (LS.ari64 rfl rfl rfl rfl rfl rfl (by omega) (by omega)) rfl rfl rfl rfl rfl ?_ | refine DQ.stepc (LS.index_map tabs rfl rfl rfl rfl rfl rfl rfl rfl (fun _ => rfl) (by decide) (by omega) (by omega)) rfl rfl rfl rfl rfl ?_ | (refine DQ.gsplitE rfl rfl rfl (fun hc => ?_) (fun hc => ?_) <;> (fail_if_success (exact absurd hc (by decide))) <;> (try simp only [hsx] at hc) <;> (try first | (exfalso; omega) | contradiction | (exfalso; simp [dec_eq] at hc; done))) | refine DQ.stepc (LS.eqs rfl rfl rfl rfl rfl eqt45 rfl rfl) rfl rfl rfl rfl rfl ?_ | refine DQ.stepc (LS.eqs rfl rfl rfl rfl rfl eqt68 rfl rfl) rfl rfl rfl rfl rfl ?_ | refine DQ.stepc (LS.eqs rfl rfl rfl rfl rfl eqt146 rfl rfl) rfl rfl rfl rfl rfl ?_ | refine DQ.stepc (LS.eqs rfl rfl rfl rfl rfl eqt151 rfl rfl) rfl rfl rfl rfl rfl ?_) | refine AW.seq ?_ | refine AW.region ?_ | refine Then.norm ?_ | refine AW.skip ?_ | refine AW.block ?_ | refine InB.norm ?_ | refine AW.condT rfl ?_ | refine AW.condF rfl ?_ | (refine AW.cond rfl (fun hc => ?_) (fun hc => ?_) <;> (try simp only [hsx] at hc) <;> (try first | (exfalso; omega) | contradiction | (exfalso; simp [dec_eq] at hc; done))) | refine AW.ret ?_ | refine AW.exit ?_ | refine Then.ret ?_ | refine Then.exit ?_ | refine InB.ret ?_ | refine InB.here ?_ | refine InB.off rfl ?_ | refine Rnd.ret ?_ | refine Rnd.exit ?_ ))
  · refine RQ.fin rfl rfl (congrArg bav ?_)
    unfold attrsB
    rw [← h2, drop_next h0 (by assumption)]; simp [attrsGo, hc]
  · have e : 4096 < (atI l i).value.size := by omega
    refine RQ.fin rfl rfl (congrArg bav ?_)
    unfold attrsB
    rw [← h2, drop_next h0 (by assumption)]; simp [attrsGo, e]
  · refine RQ.fin rfl rfl (congrArg bav ?_)
    unfold attrsB
    rw [← h2, drop_next h0 (by assumption), attrsGo, dec_pos hc]; simp
  · refine AW.orders mixed ?_
    have e : ¬ 4096 < (atI l i).value.size := by omega
    have hi : i < l.length := by assumption
    have ek : ((l.take (i + 1).toNat).map fun a => key a.name) = ((l.take i.toNat).map fun a => key a.name) ++ [key (atI l i).name] := by rw [take_next h0 hi, List.map_append]; rfl
    repeat' (first
      | refine AS.step tabs rfl rfl ?_
      | refine AS.op rfl rfl (OpOK.look0 (kf := akf) key151 Tryz.underlying149 zero3 rfl rfl rfl rfl (q := key (atI l i).name) rfl hc) ?_
      | refine AS.op rfl rfl (OpOK.look2 (kf := akf) (xs := (l.take i.toNat).map fun a => key a.name) (q := key (atI l i).name) key151 Tryz.underlying149 zero3 rfl rfl rfl rfl rfl (by simp) hc) ?_
      | refine AS.op rfl rfl (OpOK.ari64 rfl rfl rfl rfl rfl (by omega) (by omega)) ?_
      | refine AS.op rfl rfl (OpOK.ent0 (kf := akf) key151 Tryz.underlying149 zero3 rfl rfl rfl hg rfl rfl (q := key (atI l i).name) rfl hc (by repeat' (first | exact trivial | refine ⟨rfl, ?_⟩)) rfl) ?_
      | refine AS.op rfl rfl (OpOK.ent1 rfl rfl hg rfl (by simp) rfl (v := [.int .i64 (0 + 1)]) rfl (by repeat' (first | exact trivial | refine ⟨rfl, ?_⟩)) rfl) ?_
      | refine AD.nil (by decide +kernel) ?_
      | refine AD.two (i := 0) (j := 1) (by decide +kernel) ?_ ?_
      | refine AD.one (i := 0) (by decide +kernel) ?_
      | refine AD.one (i := 1) (by decide +kernel) ?_
      | refine AD.two (i := 2) (j := 4) (by decide +kernel) ?_ ?_
      | refine AD.two (i := 2) (j := 5) (by decide +kernel) ?_ ?_
      | refine AD.two (i := 3) (j := 4) (by decide +kernel) ?_ ?_
      | refine AD.two (i := 3) (j := 5) (by decide +kernel) ?_ ?_
      | refine AD.one (i := 2) (by decide +kernel) ?_
      | refine AD.one (i := 3) (by decide +kernel) ?_
      | refine AD.one (i := 4) (by decide +kernel) ?_
      | refine AD.one (i := 5) (by decide +kernel) ?_
      | refine AD.one (i := 6) (by decide +kernel) ?_)
    all_goals
      (repeat' (first | ((with_reducible show AL _ _ _ _ _); first | (refine AL.step tabs rfl ?_; try dsimp only [len, List.nil_append, List.cons_append]) | refine AL.nil ?_ | (refine AL.gsplitE rfl rfl rfl (fun hc => ?_) (fun hc => ?_) <;> (fail_if_success (exact absurd hc (by decide))) <;> (try simp only [hsx] at hc) <;> (try first | (exfalso; omega) | contradiction | (exfalso; simp [dec_eq] at hc; done))) | (refine AL.op rfl (OpOK.ari64 rfl rfl rfl rfl rfl (by omega) (by omega)) ?_) | (refine AL.op rfl (OpOK.index_map tabs rfl rfl rfl rfl rfl rfl rfl (fun _ => rfl) (by decide) (by omega) (by omega)) ?_) | (refine AL.op rfl (OpOK.eqs rfl rfl rfl rfl eqt45 rfl rfl) ?_) | (refine AL.op rfl (OpOK.eqs rfl rfl rfl rfl eqt68 rfl rfl) ?_) | (refine AL.op rfl (OpOK.eqs rfl rfl rfl rfl eqt146 rfl rfl) ?_) | (refine AL.op rfl (OpOK.eqs rfl rfl rfl rfl eqt151 rfl rfl) ?_)) | ((with_reducible show DQ _ _ _ _ _ _); first | refine DQ.stepc (LS.val tabs rfl rfl rfl) rfl rfl rfl rfl rfl ?_ | refine DQ.stepc (LS.skip rfl rfl) rfl rfl rfl rfl rfl ?_ | refine DQ.nilM (by kernel_rfl) ?_ | refine DQ.stepc (LS.ari64 rfl rfl rfl rfl rfl rfl (by omega) (by omega)) rfl rfl rfl rfl rfl ?_ | refine DQ.stepc (LS.index_map tabs rfl rfl rfl rfl rfl rfl rfl rfl (fun _ => rfl) (by decide) (by omega) (by omega)) rfl rfl rfl rfl rfl ?_ | (refine DQ.gsplitE rfl rfl rfl (fun hc => ?_) (fun hc => ?_) <;> (fail_if_success (exact absurd hc (by decide))) <;> (try simp only [hsx] at hc) <;> (try first | (exfalso; omega) | contradiction | (exfalso; simp [dec_eq] at hc; done))) | refine DQ.stepc (LS.eqs rfl rfl rfl rfl rfl eqt45 rfl rfl) rfl rfl rfl rfl rfl ?_ | refine DQ.stepc (LS.eqs rfl rfl rfl rfl rfl eqt68 rfl rfl) rfl rfl rfl rfl rfl ?_ | refine DQ.stepc (LS.eqs rfl rfl rfl rfl rfl eqt146 rfl rfl) rfl rfl rfl rfl rfl ?_ | refine DQ.stepc (LS.eqs rfl rfl rfl rfl rfl eqt151 rfl rfl) rfl rfl rfl rfl rfl ?_) | refine AW.seq ?_ | refine AW.region ?_ | refine Then.norm ?_ | refine AW.skip ?_ | refine AW.block ?_ | refine InB.norm ?_ | refine AW.condT rfl ?_ | refine AW.condF rfl ?_ | (refine AW.cond rfl (fun hc => ?_) (fun hc => ?_) <;> (try simp only [hsx] at hc) <;> (try first | (exfalso; omega) | contradiction | (exfalso; simp [dec_eq] at hc; done))) | refine AW.ret ?_ | refine AW.exit ?_ | refine Then.ret ?_ | refine Then.exit ?_ | refine InB.ret ?_ | refine InB.here ?_ | refine InB.off rfl ?_ | refine Rnd.ret ?_ | refine Rnd.exit ?_ | refine AW.drawW mixed (by kernel_rfl) ?_))
      refine Rnd.norm (i + 1) (Le.cut 0 rfl ⟨(by rw [ek, List.map_append, List.map_append]; rfl), rfl, rfl, rfl, trivial⟩ rfl rfl (Nat.zero_le _)) ⟨by omega, by omega, ?_⟩ (by omega)
      rw [ek, ← h2, drop_next h0 hi]
      simp only [attrsGo]
      rw [dec_neg hc]
      simp [*]
  · refine RQ.fin rfl rfl (congrArg bav ?_)
    unfold attrsB
    rw [← h2, drop_end (by assumption), show decide (l.length ≤ 64) = true by simp; omega]; simp [attrsGo]
end Go.Proofs.YteijifoobaoclaaGreat.A
