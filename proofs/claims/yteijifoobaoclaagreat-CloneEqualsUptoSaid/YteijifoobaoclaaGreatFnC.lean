/- Contracts: package forest, what Check asks of kids. -/
import Derived.Test.YteijifoobaoclaaGreatFnB
namespace Go.Proofs.YteijifoobaoclaaGreat.A
set_option linter.unusedVariables false
set_option linter.unusedSimpArgs false
set_option maxRecDepth 100000
set_option maxHeartbeats 4000000
noncomputable def kidsGo (f : List Node) (h doc : Int) (seen : List Int) : List Int → Bool
  | [] => true
  | k :: r => if inB f k = false then false else if dec (k ∈ seen) = true then false else if dec ((nodeAt f k).parent = h) = false then false else if dec ((nodeAt f k).doc = doc) = false then false else kidsGo f h doc (seen ++ [k]) r
noncomputable def kidsB (f : List Node) (h : Int) (n : Node) : Bool := kidsGo f h n.doc [] n.kids && famB f n
theorem kidsOf_c (f : List Node) (h : Int) (n : Node) (hl : f.length ≤ 1000000000) (hk : n.kids.length ≤ 1000000000) : PureC Tryz.prog 109 [fav f, iav h, n.av] (bav (kidsB f h n)) := by
  refine PureC.mk tabs Tryz.func109 55 [.tmp 6] rfl rfl rfl rfl rfl ?_; intro w0 X
  (repeat' (first | ((with_reducible show AL _ _ _ _ _); first | (refine AL.step tabs rfl ?_; try dsimp only [len, List.nil_append, List.cons_append]) | refine AL.makeMap rfl rfl rfl (fun g hg => ?_) | refine AL.nil ?_ | (refine AL.gsplitE rfl rfl rfl (fun hc => ?_) (fun hc => ?_) <;> (fail_if_success (exact absurd hc (by decide))) <;> (try simp only [hsx] at hc) <;> (try first | (exfalso; omega) | contradiction | (exfalso; simp [dec_eq] at hc; done))) | (refine AL.op rfl (OpOK.ari64 rfl rfl rfl rfl rfl (by omega) (by omega)) ?_) | (refine AL.op rfl (OpOK.index_map tabs rfl rfl rfl rfl rfl rfl rfl (fun _ => rfl) (by decide) (by omega) (by omega)) ?_) | (refine AL.op rfl (OpOK.eqs rfl rfl rfl rfl eqt45 rfl rfl) ?_) | (refine AL.op rfl (OpOK.eqs rfl rfl rfl rfl eqt68 rfl rfl) ?_) | (refine AL.op rfl (OpOK.eqs rfl rfl rfl rfl eqt146 rfl rfl) ?_) | (refine AL.op rfl (OpOK.eqs rfl rfl rfl rfl eqt151 rfl rfl) ?_)) | refine AW.seq ?_ | refine AW.region ?_ | refine Then.norm ?_ | refine AW.skip ?_ | refine AW.block ?_ | refine InB.norm ?_ | refine AW.condT rfl ?_ | refine AW.condF rfl ?_ | (refine AW.cond rfl (fun hc => ?_) (fun hc => ?_) <;> (try simp only [hsx] at hc) <;> (try first | (exfalso; omega) | contradiction | (exfalso; simp [dec_eq] at hc; done))) | refine AW.ret ?_ | refine AW.exit ?_ | refine Then.ret ?_ | refine Then.exit ?_ | refine InB.ret ?_ | refine InB.here ?_ | refine InB.off rfl ?_ | refine Rnd.ret ?_ | refine Rnd.exit ?_))
  refine AW.loop (α := Int) (fun i => ⟨[(1, iav h), (3, .ptr 0 1 0 0), (5, .ptr 1 1 0 0), (7, .mp g ((n.kids.take i.toNat).map i64) ((n.kids.take i.toNat).map fun _ => [.int .i64 1])), (14, .imm (.sl (n.kids.map i64))), (15, iav (n.kids.map i64).length), (16, iav i)], [⟨24, 1, [[.imm (.sl (f.map Node.iv))]]⟩, ⟨52, 16, [n.iv.map .imm]⟩]⟩) (fun i => 0 ≤ i ∧ i ≤ n.kids.length ∧ kidsGo f h n.doc (n.kids.take i.toNat) (n.kids.drop i.toNat) = kidsGo f h n.doc [] n.kids) (fun i => (n.kids.length - i).toNat) 0 (Le.cut 2 rfl ⟨rfl, rfl, rfl, rfl, rfl, rfl, rfl, trivial⟩ rfl rfl (Nat.zero_le _)) ⟨by omega, by omega, rfl⟩ ?_
  intro i ⟨h0, h1, h2⟩
  (repeat' (first | ((with_reducible show AL _ _ _ _ _); first | (refine AL.step tabs rfl ?_; try dsimp only [len, List.nil_append, List.cons_append]) | refine AL.op rfl (OpOK.call rfl rfl rfl rfl (at_c f (atI n.kids i) hl) rfl) ?_ | refine AL.op rfl (OpOK.call rfl rfl rfl rfl (family_c f n hl hk) rfl) ?_ | refine AL.op rfl (OpOK.look0 (kf := i64) key3 Tryz.underlying154 zero3 rfl rfl rfl rfl (q := atI n.kids i) rfl (by assumption)) ?_ | refine AL.op rfl (OpOK.look1 (kf := i64) key3 Tryz.underlying154 zero3 rfl rfl rfl rfl rfl (q := atI n.kids i) rfl) ?_ | refine AL.op rfl (OpOK.put0 (kf := i64) key3 Tryz.underlying154 rfl (.inl rfl) hg rfl rfl (q := atI n.kids i) rfl (v := [.int .i64 (0 + 1)]) rfl (fun M z hz => pkA_inv hz) (by assumption) (by repeat' (first | exact trivial | refine ⟨rfl, ?_⟩)) rfl) ?_ | refine AL.nil ?_ | (refine AL.gsplitE rfl rfl rfl (fun hc => ?_) (fun hc => ?_) <;> (fail_if_success (exact absurd hc (by decide))) <;> (try simp only [hsx] at hc) <;> (try first | (exfalso; omega) | contradiction | (exfalso; simp [dec_eq] at hc; done))) | (refine AL.op rfl (OpOK.ari64 rfl rfl rfl rfl rfl (by omega) (by omega)) ?_) | (refine AL.op rfl (OpOK.index_map tabs rfl rfl rfl rfl rfl rfl rfl (fun _ => rfl) (by decide) (by omega) (by omega)) ?_) | (refine AL.op rfl (OpOK.eqs rfl rfl rfl rfl eqt45 rfl rfl) ?_) | (refine AL.op rfl (OpOK.eqs rfl rfl rfl rfl eqt68 rfl rfl) ?_) | (refine AL.op rfl (OpOK.eqs rfl rfl rfl rfl eqt146 rfl rfl) ?_) | (refine AL.op rfl (OpOK.eqs rfl rfl rfl rfl eqt151 rfl rfl) ?_)) | refine AW.seq ?_ | refine AW.region ?_ | refine Then.norm ?_ | refine AW.skip ?_ | refine AW.block ?_ | refine InB.norm ?_ | refine AW.condT rfl ?_ | refine AW.condF rfl ?_ | (refine AW.cond rfl (fun hc => ?_) (fun hc => ?_) <;> (try simp only [hsx] at hc) <;> (try first | (exfalso; omega) | contradiction | (exfalso; simp [dec_eq] at hc; done))) | refine AW.ret ?_ | refine AW.exit ?_ | refine Then.ret ?_ | refine Then.exit ?_ | refine InB.ret ?_ | refine InB.here ?_ | refine InB.off rfl ?_ | refine Rnd.ret ?_ | refine Rnd.exit ?_))
  · refine RQ.fin rfl rfl (congrArg bav ?_)
    unfold kidsB
    rw [← h2, drop_next h0 (by assumption)]; simp [kidsGo, hc]
  · refine RQ.fin rfl rfl (congrArg bav ?_)
    unfold kidsB
    rw [← h2, drop_next h0 (by assumption), kidsGo, dec_pos hc]; simp
  · refine RQ.fin rfl rfl (congrArg bav ?_)
    unfold kidsB
    rw [← h2, drop_next h0 (by assumption), kidsGo, dec_neg hc]; simp
  · refine RQ.fin rfl rfl (congrArg bav ?_)
    unfold kidsB
    rw [← h2, drop_next h0 (by assumption), kidsGo, dec_neg hc]; simp
  · have hi : i < n.kids.length := by assumption
    have hn : atI n.kids i ∉ n.kids.take i.toNat := by assumption
    have ek : n.kids.take (i + 1).toNat = n.kids.take i.toNat ++ [atI n.kids i] := take_next h0 hi
    refine Rnd.norm (i + 1) (Le.cut 2 rfl ⟨rfl, rfl, rfl, (by rw [ek, List.map_append, List.map_append]; rfl), rfl, rfl, rfl, trivial⟩ rfl rfl (Nat.zero_le _)) ⟨by omega, by omega, ?_⟩ (by omega)
    rw [ek, ← h2, drop_next h0 hi]
    simp only [kidsGo]
    rw [dec_neg hn]
    simp [*, dec_T]
  · refine RQ.fin rfl rfl (congrArg bav ?_)
    unfold kidsB
    rw [← h2, drop_end (by assumption)]; simp [kidsGo]
end Go.Proofs.YteijifoobaoclaaGreat.A
