/- Contracts: forest.All of changes that can be done. -/
import Derived.Test.YtmhejcnaanocpaaGreatCDOneGrpBB
import Derived.Test.YtmhejcnaanocpaaGreatCDOneGrpAU
import Derived.Test.YtmhejcnaanocpaaGreatRows
import Derived.Test.YtmhejcnaanocpaaGreatCDOneGrpAL
import Derived.ChangeArms
import Derived.WideShapes
namespace Go.Proofs.YtmhejcnaanocpaaGreat.A
set_option linter.unusedVariables false
set_option linter.unusedSimpArgs false
set_option maxRecDepth 100000
set_option maxHeartbeats 4000000
def Chain : List Node → List Change → List Node → Prop
  | f, [], g => f = g
  | f, c :: r, g => ∃ m, PureC Tryz.prog 71 [fav f, c.av] (.tup [fav m, iav 0]) ∧ Chain m r g
theorem allMany_c (f : List Node) (l : List Change) (hf : Fit f) (hr : rightP f) (hl : 4096 < l.length) : PureC Tryz.prog 30 [fav f, .imm (.sl (l.map Change.iv))] (.tup [fav [], iav 0, iav 3]) := by
  have hml : (l.map Change.iv).length = l.length := List.length_map _
  refine PureC.mk tabs Tryz.func30 47 [.cell 4 24, .tmp 5, .tmp 6] rfl rfl rfl rfl rfl ?_; intro w0 X
  (repeat' (first | ((with_reducible show AL _ _ _ _ _); first | (refine AL.step tabs rfl ?_; try dsimp only [len, List.nil_append, List.cons_append]) | refine AL.op rfl (OpOK.call rfl rfl rfl rfl (pure_true (right_c f hf) hr) rfl) ?_ | refine AL.nil ?_ | (refine AL.op rfl (OpOK.ari64 rfl rfl rfl rfl rfl (by omega) (by omega)) ?_) | (refine AL.op rfl (OpOK.index_map tabs rfl rfl rfl rfl rfl rfl rfl (fun _ => rfl) (by decide) (by omega) (by omega)) ?_)) | fail | refine AW.seq ?_ | refine AW.region ?_ | refine Then.norm ?_ | refine AW.skip ?_ | refine AW.block ?_ | refine InB.norm ?_ | refine AW.condT rfl ?_ | refine AW.condF rfl ?_ | (refine AW.cond rfl (fun hc => ?_) (fun hc => ?_) <;> (try simp only [hsx] at hc) <;> (try first | (exfalso; omega) | contradiction | (exfalso; simp [dec_eq] at hc; done))) | refine AW.ret ?_ | refine AW.exit ?_ | refine Then.ret ?_ | refine Then.exit ?_ | refine InB.ret ?_ | refine InB.here ?_ | refine InB.off rfl ?_ | refine Rnd.ret ?_ | refine Rnd.exit ?_))
  all_goals first
    | (exfalso; omega)
    | exact RQ.fin rfl rfl rfl
theorem copyP_c (f : List Node) (hf : Fit f) (h1 : 0 < f.length) : PureC Tryz.prog 70 [fav f] (fav f) := by
  obtain ⟨T, hTe⟩ : ∃ T, T = f.map rowS := ⟨_, rfl⟩
  have hT : T.length = f.length := by rw [hTe]; exact List.length_map _
  have hTi : T.all (fun r => r.all AV.dat) = true := by rw [hTe]; exact rowS_dat f
  have hTl : ∀ r ∈ T, r.length = 16 := by rw [hTe]; exact rowS_16 f
  have hcp : ∀ i : Int, 0 ≤ i → i < f.length → PureC Tryz.prog 94 [(atI f i).av] (.agg (atI T i)) := by rw [hTe]; exact copyAt_c f hf
  have hl := hf.len
  have hm : (List.map Node.iv f).length = f.length := List.length_map _
  refine PureC.mk tabs Tryz.func70 27 [.cell 2 24] rfl rfl rfl rfl rfl ?_; intro w0 X
  refine AW.reserve 44 16 rfl ?_
  (repeat' (first | ((with_reducible show AL _ _ _ _ _); first | (refine AL.step tabs rfl ?_; try dsimp only [len, List.nil_append, List.cons_append]) | refine AL.ope rfl (OpOK.make_at 0 tabs rfl rfl rfl rfl rfl rfl rfl rfl rfl (by omega) (by omega) (by omega) rfl (by simp only [ti44]; omega)) rfl ?_ | refine AL.nil ?_ | (refine AL.op rfl (OpOK.ari64 rfl rfl rfl rfl rfl (by omega) (by omega)) ?_) | (refine AL.op rfl (OpOK.index_map tabs rfl rfl rfl rfl rfl rfl rfl (fun _ => rfl) (by decide) (by omega) (by omega)) ?_)) | ((with_reducible show DQ _ _ _ _ _ _); first | refine DQ.stepc (LS.val tabs rfl rfl rfl) rfl rfl rfl rfl rfl ?_ | refine DQ.stepc (LS.skip rfl rfl) rfl rfl rfl rfl rfl ?_ | refine DQ.nilM (by kernel_rfl) ?_ | refine DQ.stepc (LS.ari64 rfl rfl rfl rfl rfl rfl (by omega) (by omega)) rfl rfl rfl rfl rfl ?_ | refine DQ.stepc (LS.index_map tabs rfl rfl rfl rfl rfl rfl rfl rfl (fun _ => rfl) (by decide) (by omega) (by omega)) rfl rfl rfl rfl rfl ?_) | refine AW.seq ?_ | refine AW.region ?_ | refine Then.norm ?_ | refine AW.skip ?_ | refine AW.block ?_ | refine InB.norm ?_ | refine AW.condT rfl ?_ | refine AW.condF rfl ?_ | (refine AW.cond rfl (fun hc => ?_) (fun hc => ?_) <;> (try simp only [hsx] at hc) <;> (try first | (exfalso; omega) | contradiction | (exfalso; simp [dec_eq] at hc; done))) | refine AW.ret ?_ | refine AW.exit ?_ | refine Then.ret ?_ | refine Then.exit ?_ | refine InB.ret ?_ | refine InB.here ?_ | refine InB.off rfl ?_ | refine Rnd.ret ?_ | refine Rnd.exit ?_ | refine AW.drawW mixed (by kernel_rfl) ?_))
  refine AW.loop (α := Int) (fun i => ⟨[(2, .ptr 2 1 0 0), (3, .ptr 3 1 0 0), (12, .imm (.sl (f.map Node.iv))), (13, iav (List.map Node.iv f).length), (14, iav i)], [⟨44, 16, T.take i.toNat ++ List.replicate (f.length - i.toNat) ti44.zero⟩, ⟨24, 1, [[.imm (.sl (f.map Node.iv))]]⟩, ⟨24, 1, [[.nils]]⟩, ⟨24, 1, [[.os 0 f.length]]⟩]⟩) (fun i => 0 ≤ i ∧ i ≤ f.length) (fun i => (f.length - i).toNat) 0 (Le.cut 4 (by rw [← hm]; rfl) (by repeat' (first | exact trivial | refine ⟨rfl, ?_⟩)) rfl (by simp only [List.all_cons, List.all_nil, Bool.and_true, Bool.and_eq_true]; exact ⟨all_rows _ _ _ (all_im hTi _), rfl, rfl, rfl⟩) (Nat.zero_le _)) ⟨by omega, by omega⟩ ?_
  intro i ⟨h0, h2⟩
  (repeat' (first | ((with_reducible show AL _ _ _ _ _); first | (refine AL.step tabs rfl ?_; try dsimp only [len, List.nil_append, List.cons_append]) | refine AL.nil ?_ | (refine AL.op rfl (OpOK.ari64 rfl rfl rfl rfl rfl (by omega) (by omega)) ?_) | (refine AL.op rfl (OpOK.index_map tabs rfl rfl rfl rfl rfl rfl rfl (fun _ => rfl) (by decide) (by omega) (by omega)) ?_)) | ((with_reducible show DQ _ _ _ _ _ _); first | refine DQ.stepc (LS.call rfl rfl rfl rfl rfl (hcp i h0 (by omega)) rfl) rfl rfl rfl rfl rfl ?_ | refine DQ.stepc (LS.index_own (b := ⟨44, 16, T.take i.toNat ++ List.replicate (f.length - i.toNat) ti44.zero⟩) tabs rfl rfl rfl rfl rfl rfl rfl rfl rfl (take_rows _ _ _ _ hT h0 h2).symm rfl (by omega) (by omega)) rfl rfl rfl rfl rfl ?_ | refine DQ.stepc (LS.store (i := ti44) (v := .agg (atI T i)) (ty := 44) (sz := 16) (rows := T.take i.toNat ++ List.replicate (f.length - i.toNat) ti44.zero) tabs rfl rfl rfl rfl rfl rfl rfl (take_rows _ _ _ _ hT h0 h2).symm (hTl _ (atI_mem h0 (by omega))) (by simp only [avCells, List.all_eq_true]; exact fun c hc => im1_cell (List.all_eq_true.1 (List.all_eq_true.1 hTi _ (atI_mem h0 (by omega))) c hc)) (by decide) (take_at _ _ _ _ hT h0 (by omega))) rfl rfl rfl rfl rfl ?_ | refine DQ.stepc (LS.val tabs rfl rfl rfl) rfl rfl rfl rfl rfl ?_ | refine DQ.stepc (LS.skip rfl rfl) rfl rfl rfl rfl rfl ?_ | refine DQ.nilM (by kernel_rfl) ?_ | refine DQ.stepc (LS.ari64 rfl rfl rfl rfl rfl rfl (by omega) (by omega)) rfl rfl rfl rfl rfl ?_ | refine DQ.stepc (LS.index_map tabs rfl rfl rfl rfl rfl rfl rfl rfl (fun _ => rfl) (by decide) (by omega) (by omega)) rfl rfl rfl rfl rfl ?_) | refine AW.seq ?_ | refine AW.region ?_ | refine Then.norm ?_ | refine AW.skip ?_ | refine AW.block ?_ | refine InB.norm ?_ | refine AW.condT rfl ?_ | refine AW.condF rfl ?_ | (refine AW.cond rfl (fun hc => ?_) (fun hc => ?_) <;> (try simp only [hsx] at hc) <;> (try first | (exfalso; omega) | contradiction | (exfalso; simp [dec_eq] at hc; done))) | refine AW.ret ?_ | refine AW.exit ?_ | refine Then.ret ?_ | refine Then.exit ?_ | refine InB.ret ?_ | refine InB.here ?_ | refine InB.off rfl ?_ | refine Rnd.ret ?_ | refine Rnd.exit ?_ | refine AW.drawW mixed (by kernel_rfl) ?_))
  · refine Rnd.norm (i + 1) (Le.cut 4 (by rw [← take_set T ti44.zero f.length i hT h0 (by assumption)]; rfl) (by repeat' (first | exact trivial | refine ⟨rfl, ?_⟩)) rfl (by simp only [List.all_cons, List.all_nil, Bool.and_true, Bool.and_eq_true]; exact ⟨all_rows _ _ _ (all_im hTi _), rfl, rfl, rfl⟩) (Nat.zero_le _)) ⟨by omega, by omega⟩ (by omega)
  · have e : T.take i.toNat ++ List.replicate (f.length - i.toNat) ti44.zero = T := by
      rw [take_end (by omega), show f.length - i.toNat = 0 by omega]; simp
    refine RQ.ret rfl ?_
    rw [e, hTe]
    exact fzS (f := f) (id := 0) rfl
theorem all_c (f g : List Node) (l : List Change) (hf : Fit f) (hr : rightP f) (h0 : 0 < f.length) (hl : l.length ≤ 4096) (hch : Chain f l g) : PureC Tryz.prog 30 [fav f, .imm (.sl (l.map Change.iv))] (.tup [fav g, iav l.length, iav 0]) := by
  have hml : (l.map Change.iv).length = l.length := List.length_map _
  refine PureC.mk tabs Tryz.func30 47 [.cell 4 24, .tmp 5, .tmp 6] rfl rfl rfl rfl rfl ?_; intro w0 X
  (repeat' (first | ((with_reducible show AL _ _ _ _ _); first | (refine AL.step tabs rfl ?_; try dsimp only [len, List.nil_append, List.cons_append]) | refine AL.op rfl (OpOK.call rfl rfl rfl rfl (pure_true (right_c f hf) hr) rfl) ?_ | refine AL.op rfl (OpOK.call rfl rfl rfl rfl (copyP_c f hf h0) rfl) ?_ | refine AL.nil ?_ | (refine AL.op rfl (OpOK.ari64 rfl rfl rfl rfl rfl (by omega) (by omega)) ?_) | (refine AL.op rfl (OpOK.index_map tabs rfl rfl rfl rfl rfl rfl rfl (fun _ => rfl) (by decide) (by omega) (by omega)) ?_)) | refine AW.seq ?_ | refine AW.region ?_ | refine Then.norm ?_ | refine AW.skip ?_ | refine AW.block ?_ | refine InB.norm ?_ | refine AW.condT rfl ?_ | refine AW.condF rfl ?_ | (refine AW.cond rfl (fun hc => ?_) (fun hc => ?_) <;> (try simp only [hsx] at hc) <;> (try first | (exfalso; omega) | contradiction | (exfalso; simp [dec_eq] at hc; done))) | refine AW.ret ?_ | refine AW.exit ?_ | refine Then.ret ?_ | refine Then.exit ?_ | refine InB.ret ?_ | refine InB.here ?_ | refine InB.off rfl ?_ | refine Rnd.ret ?_ | refine Rnd.exit ?_))
  all_goals first
    | (exfalso; omega)
    | skip
  refine AW.loop (α := List Node × Int) (fun y => ⟨[(1, .imm (.sl (l.map Change.iv))), (4, .ptr 1 1 0 0), (7, .ptr 2 1 0 0), (24, .imm (.sl (l.map Change.iv))), (25, iav (l.map Change.iv).length), (26, iav y.2)], [⟨24, 1, [[.imm (.sl (f.map Node.iv))]]⟩, ⟨24, 1, [[.nils]]⟩, ⟨24, 1, [[.imm (.sl (y.1.map Node.iv))]]⟩]⟩) (fun y => 0 ≤ y.2 ∧ y.2 ≤ l.length ∧ Chain y.1 (l.drop y.2.toNat) g) (fun y => (l.length - y.2).toNat) (f, 0) (Le.cut 3 rfl (by repeat' (first | exact trivial | refine ⟨rfl, ?_⟩)) rfl rfl (Nat.zero_le _)) ⟨by simp, by simp, hch⟩ ?_
  rintro ⟨G, i⟩ ⟨h1, h2, h4⟩
  simp only at h1 h2 h4
  by_cases hi : i < l.length
  · rw [drop_next h1 hi] at h4
    obtain ⟨m, h5, h6⟩ := h4
    (repeat' (first | ((with_reducible show AL _ _ _ _ _); first | (refine AL.step tabs rfl ?_; try dsimp only [len, List.nil_append, List.cons_append]) | refine AL.op rfl (OpOK.call rfl rfl rfl rfl h5 rfl) ?_ | refine AL.nil ?_ | (refine AL.op rfl (OpOK.ari64 rfl rfl rfl rfl rfl (by omega) (by omega)) ?_) | (refine AL.op rfl (OpOK.index_map tabs rfl rfl rfl rfl rfl rfl rfl (fun _ => rfl) (by decide) (by omega) (by omega)) ?_)) | refine AW.seq ?_ | refine AW.region ?_ | refine Then.norm ?_ | refine AW.skip ?_ | refine AW.block ?_ | refine InB.norm ?_ | refine AW.condT rfl ?_ | refine AW.condF rfl ?_ | (refine AW.cond rfl (fun hc => ?_) (fun hc => ?_) <;> (try simp only [hsx] at hc) <;> (try first | (exfalso; omega) | contradiction | (exfalso; simp [dec_eq] at hc; done))) | refine AW.ret ?_ | refine AW.exit ?_ | refine Then.ret ?_ | refine Then.exit ?_ | refine InB.ret ?_ | refine InB.here ?_ | refine InB.off rfl ?_ | refine Rnd.ret ?_ | refine Rnd.exit ?_))
    all_goals first
      | (exfalso; omega)
      | (refine Rnd.norm (m, i + 1) (Le.cut 3 rfl (by repeat' (first | exact trivial | refine ⟨rfl, ?_⟩)) rfl rfl (Nat.zero_le _)) ⟨by simp only; omega, by simp only; omega, h6⟩ (by simp only; omega))
  · rw [drop_end (by omega)] at h4
    have e : G = g := h4
    subst e
    (repeat' (first | ((with_reducible show AL _ _ _ _ _); first | (refine AL.step tabs rfl ?_; try dsimp only [len, List.nil_append, List.cons_append]) | refine AL.nil ?_ | (refine AL.op rfl (OpOK.ari64 rfl rfl rfl rfl rfl (by omega) (by omega)) ?_) | (refine AL.op rfl (OpOK.index_map tabs rfl rfl rfl rfl rfl rfl rfl (fun _ => rfl) (by decide) (by omega) (by omega)) ?_)) | refine AW.seq ?_ | refine AW.region ?_ | refine Then.norm ?_ | refine AW.skip ?_ | refine AW.block ?_ | refine InB.norm ?_ | refine AW.condT rfl ?_ | refine AW.condF rfl ?_ | (refine AW.cond rfl (fun hc => ?_) (fun hc => ?_) <;> (try simp only [hsx] at hc) <;> (try first | (exfalso; omega) | contradiction | (exfalso; simp [dec_eq] at hc; done))) | refine AW.ret ?_ | refine AW.exit ?_ | refine Then.ret ?_ | refine Then.exit ?_ | refine InB.ret ?_ | refine InB.here ?_ | refine InB.off rfl ?_ | refine Rnd.ret ?_ | refine Rnd.exit ?_))
    all_goals first
      | (exfalso; omega)
      | (rw [← hml]; exact RQ.fin rfl rfl rfl)
end Go.Proofs.YtmhejcnaanocpaaGreat.A
namespace Go.Proofs.YtmhejcnaanocpaaGreat.A
set_option linter.unusedVariables false
set_option linter.unusedSimpArgs false
set_option maxRecDepth 100000
set_option maxHeartbeats 4000000
theorem chain_snoc {c : Change} {m : List Node} : ∀ {f : List Node} {l : List Change} {g : List Node}, Chain f l g → PureC Tryz.prog 71 [fav g, c.av] (.tup [fav m, iav 0]) → Chain f (l ++ [c]) m
  | f, [], g, h, h2 => by
    have e : f = g := h
    subst e
    exact ⟨m, h2, rfl⟩
  | f, d :: r, g, h, h2 => by
    obtain ⟨k, h3, h4⟩ := h
    exact ⟨k, h3, chain_snoc h4 h2⟩
theorem doS_chain {f : List Node} {p : PS} {c : Change} (hp : InvP p) (hc : p.why = 0 → CanCh p.F c) (h : Chain f p.L p.F) : Chain f (doS p c).1.L (doS p c).1.F := by
  unfold doS
  by_cases h0 : p.why = 0
  · rw [if_neg (by omega)]
    by_cases hw : (doneG p.F c).2 = 0
    · rw [if_neg (by omega)]
      refine chain_snoc h ?_
      have := doneG_c p.F c hp.fit hp.right hp.pos (hc h0)
      rw [hw] at this
      exact this
    · rw [if_pos hw]
      exact h
  · rw [if_pos h0]
    exact h
theorem putS_chain {f : List Node} {p : PS} {h off cnt : Int} {v : List Int} (hp : InvP p) (hc : p.why = 0 → (replP (nodeAt p.F h).data off cnt v).2 = 0 → CanCh p.F (putC p.F h off cnt v)) (hch : Chain f p.L p.F) : Chain f (putS p h off cnt v).L (putS p h off cnt v).F := by
  unfold putS
  by_cases h1 : (replP (nodeAt p.F h).data off cnt v).2 = 0
  · rw [if_neg (by omega)]
    exact doS_chain hp (fun h0 => hc h0 h1) hch
  · rw [if_pos h1]
    exact hch
section
variable {f : List Node} {h off : Int} (hf : Fit f) (hr : rightP f) (hh : inR f h) (ht : textB (nodeAt f h).kind) (h0 : 0 ≤ off) (ho : off ≤ (nodeAt f h).data.length)
include hf hr hh ht h0 ho
theorem split_chain : Chain f (splQ f h off).L (splQ f h off).F := by
  have c1 : Chain f (spl1 f h off).1.L (spl1 f h off).1.F := doS_chain (inv0 hf hr hh) (fun _ => can1 hf hr hh ht h0 ho) rfl
  have c4 : Chain f (spl4 f h off).L (spl4 f h off).F := by
    unfold spl4
    split
    · rename_i hc
      have c2 : Chain f (spl2 f h off).L (spl2 f h off).F := doS_chain (inv1 hf hr hh ht h0 ho) (fun hw => can2 hf hr hh ht h0 ho hc.2 hw) c1
      have c3 : Chain f (spl3 f h off).L (spl3 f h off).F := doS_chain (inv2 hf hr hh ht h0 ho hc.2) (fun _ => .tree _ _ _ _) c2
      exact doS_chain (inv3 hf hr hh ht h0 ho hc.2) (fun _ => .spl _ _ _) c3
    · exact c1
  exact putS_chain (inv4 hf hr hh ht h0 ho) (fun hw hre => (can5 hf hr hh ht h0 ho hw hre).1) c4
end
/-- Replacing. -/
noncomputable def rpQ (f : List Node) (h off cnt : Int) (v : List Int) : PS := putS (pen0 f) h off cnt v
theorem data_hung {k : Int} (h : dataB k) : (traitsOf k).data = true := by
  rcases h with (h | h) | h | h <;> subst h <;> decide
theorem replP_ok {l : List Int} {off cnt : Int} {v : List Int} (h0 : 0 ≤ off) (h2 : 0 ≤ cnt) (h : (replP l off cnt v).2 = 0) : off ≤ l.length ∧ (l.length : Int) - (spTo l.length off cnt - off) + v.length ≤ 16384 ∧ replP l off cnt v = (replL l off (spTo l.length off cnt) v, 0) ∧ off ≤ spTo l.length off cnt ∧ spTo l.length off cnt ≤ l.length := by
  unfold replP at h ⊢
  split at h
  · cases h
  · rename_i h1
    split at h
    · cases h
    · rename_i h3
      rw [if_neg h1, if_neg h3]
      refine ⟨by omega, by omega, rfl, ?_, ?_⟩ <;> unfold spTo <;> omega
theorem rp_can {f : List Node} {h off cnt : Int} {v : List Int} (hf : Fit f) (hr : rightP f) (hh : inR f h) (hd : dataB (nodeAt f h).kind) (h0 : 0 ≤ off) (h2 : 0 ≤ cnt) (he : (replP (nodeAt f h).data off cnt v).2 = 0) : CanCh f (putC f h off cnt v) ∧ putC f h off cnt v = daCh h off (spTo (nodeAt f h).data.length off cnt - off) v := by
  obtain ⟨a1, a2, a3, a4, a5⟩ := replP_ok h0 h2 he
  have ec : putC f h off cnt v = daCh h off (spTo (nodeAt f h).data.length off cnt - off) v := by
    rw [putC_da, a3]
    congr 1
    unfold replL
    simp only [List.length_append, List.length_take, List.length_drop]
    omega
  refine ⟨?_, ec⟩
  rw [ec]
  exact .dat _ _ _ _ hh (data_hung hd) h0 (by omega) (by omega) (by omega) (by omega)
noncomputable def replA (f : List Node) (h off cnt : Int) (v : List Int) : AV := ansP (cfP f h false) (rpQ f h off cnt v)
theorem replA_c (f : List Node) (h off cnt : Int) (v : List Int) (hf : Fit f) (h0 : 0 ≤ off) (h1 : off < 4294967296) (h2 : 0 ≤ cnt) (h3 : cnt < 4294967296) (hv : v.length ≤ 1000000000) : PureC Tryz.prog 19 [fav f, iav h, u32 off, u32 cnt, .imm (.sl (v.map u16))] (replA f h off cnt v) := by
  by_cases he : cfP f h false = 0
  · obtain ⟨hr, hh, _, hd⟩ := cf_right he
    obtain ⟨b, hb⟩ := putS_R (p := pen0 f) (h := h) (off := off) (cnt := cnt) (v := v) (inv0 hf hr hh) (fun _ hre => (rp_can hf hr hh hd h0 h2 hre).1)
    exact replace_c f _ b h v off cnt hf h0 h1 h2 h3 hv (fun _ => hb)
  · exact replace_c f (rpQ f h off cnt v) true h v off cnt hf h0 h1 h2 h3 hv (fun h => absurd h he)
/-- what comes of it. -/
structure ReplO (f : List Node) (h off cnt : Int) (v : List Int) (g : List Node) : Prop where
  fit : Fit g
  right : rightP g
  len : g.length = f.length
  node : ∀ k, nodeAt g k = if k = h then { nodeAt f h with data := replL (nodeAt f h).data off (spTo (nodeAt f h).data.length off cnt) v } else nodeAt f k
theorem repl_out {f : List Node} {h off cnt : Int} {v : List Int} (hf : Fit f) (hr : rightP f) (hh : inR f h) (hd : dataB (nodeAt f h).kind) (h0 : 0 ≤ off) (h2 : 0 ≤ cnt) (hw : (rpQ f h off cnt v).why = 0) : ReplO f h off cnt v (rpQ f h off cnt v).F ∧ (rpQ f h off cnt v).L = [putC f h off cnt v] ∧ Chain f (rpQ f h off cnt v).L (rpQ f h off cnt v).F := by
  have hc : (pen0 f).why = 0 → (replP (nodeAt (pen0 f).F h).data off cnt v).2 = 0 → CanCh (pen0 f).F (putC (pen0 f).F h off cnt v) := fun _ hre => (rp_can hf hr hh hd h0 h2 hre).1
  have hi := putS_inv (inv0 hf hr hh) hc
  have hch := putS_chain (f := f) (inv0 hf hr hh) hc rfl
  obtain ⟨_, hre, hdn, e⟩ := putS_ok hw
  have hre' : (replP (nodeAt f h).data off cnt v).2 = 0 := hre
  obtain ⟨_, ec⟩ := rp_can hf hr hh hd h0 h2 hre'
  obtain ⟨a1, a2, a3, a4, a5⟩ := replP_ok h0 h2 hre'
  have e' : rpQ f h off cnt v = _ := e
  have eF : (rpQ f h off cnt v).F = datF f h (replL (nodeAt f h).data off (spTo (nodeAt f h).data.length off cnt) v) := by
    rw [e']
    have hdn' : (doneG f (putC f h off cnt v)).2 = 0 := hdn
    show (doneG f (putC f h off cnt v)).1 = _
    rw [ec] at hdn' ⊢
    have ed : doneG f (daCh h off (spTo (nodeAt f h).data.length off cnt - off) v) = doneW f h (repD (atI f (h - 1)).data off (spTo (nodeAt f h).data.length off cnt - off) v) := rfl
    rw [ed] at hdn' ⊢
    rw [← node_in hh, show repD (nodeAt f h).data off (spTo (nodeAt f h).data.length off cnt - off) v = replL (nodeAt f h).data off (spTo (nodeAt f h).data.length off cnt) v by unfold repD replL; rw [show off + (spTo (nodeAt f h).data.length off cnt - off) = spTo (nodeAt f h).data.length off cnt by omega]] at hdn' ⊢
    unfold doneW at hdn' ⊢
    split at hdn'
    · rename_i h5; rw [if_pos h5]
    · cases hdn'
  refine ⟨⟨hi.fit, hi.right, ?_, fun k => ?_⟩, ?_, hch⟩
  · rw [eF]; unfold datF; rw [upd_len]
  · rw [eF, node_dat hh]
  · rw [e']; rfl
end Go.Proofs.YtmhejcnaanocpaaGreat.A
namespace Go.Proofs.YtmhejcnaanocpaaGreat.A
set_option linter.unusedVariables false
set_option linter.unusedSimpArgs false
set_option maxRecDepth 100000
set_option maxHeartbeats 4000000
theorem doneNo_c (f : List Node) (h off cnt w : Int) (v : List Int) (hw : w ≠ 0) (c1 : PureC Tryz.prog 19 [fav f, iav h, u32 off, u32 cnt, .imm (.sl (v.map u16))] (.tup [fav [], .imm (.sl []), iav w])) : PureC Tryz.prog 9 [fav f, iav h, u32 off, u32 cnt, .imm (.sl (v.map u16))] (bav true) := by
  refine PureC.mk tabs Tryz.func9 128 [.tmp 10] rfl rfl rfl rfl rfl ?_; intro w0 X
  (repeat' (first | ((with_reducible show AL _ _ _ _ _); first | (refine AL.step tabs rfl ?_; try dsimp only [len, List.nil_append, List.cons_append]) | refine AL.op rfl (OpOK.call rfl rfl rfl rfl lives_c rfl) ?_ | refine AL.op rfl (OpOK.call rfl rfl rfl rfl c1 rfl) ?_ | refine AL.nil ?_ | (refine AL.gsplitE rfl rfl rfl (fun hc => ?_) (fun hc => ?_) <;> (fail_if_success (exact absurd hc (by decide))) <;> (try simp only [hsx] at hc) <;> (try first | (exfalso; omega) | contradiction | (exfalso; simp [dec_eq] at hc; done))) | (refine AL.op rfl (OpOK.ari64 rfl rfl rfl rfl rfl (by omega) (by omega)) ?_) | (refine AL.op rfl (OpOK.index_map tabs rfl rfl rfl rfl rfl rfl rfl (fun _ => rfl) (by decide) (by omega) (by omega)) ?_)) | ((with_reducible show DQ _ _ _ _ _ _); first | refine DQ.stepc (LS.val tabs rfl rfl rfl) rfl rfl rfl rfl rfl ?_ | refine DQ.stepc (LS.skip rfl rfl) rfl rfl rfl rfl rfl ?_ | refine DQ.nilM (by kernel_rfl) ?_ | refine DQ.stepc (LS.ari64 rfl rfl rfl rfl rfl rfl (by omega) (by omega)) rfl rfl rfl rfl rfl ?_ | refine DQ.stepc (LS.index_map tabs rfl rfl rfl rfl rfl rfl rfl rfl (fun _ => rfl) (by decide) (by omega) (by omega)) rfl rfl rfl rfl rfl ?_ | (refine DQ.gsplitE rfl rfl rfl (fun hc => ?_) (fun hc => ?_) <;> (fail_if_success (exact absurd hc (by decide))) <;> (try simp only [hsx] at hc) <;> (try first | (exfalso; omega) | contradiction | (exfalso; simp [dec_eq] at hc; done)))) | fail | refine AW.seq ?_ | refine AW.region ?_ | refine Then.norm ?_ | refine AW.skip ?_ | refine AW.block ?_ | refine InB.norm ?_ | refine AW.condT rfl ?_ | refine AW.condF rfl ?_ | (refine AW.cond rfl (fun hc => ?_) (fun hc => ?_) <;> (try simp only [hsx] at hc) <;> (try first | (exfalso; omega) | contradiction | (exfalso; simp [dec_eq] at hc; done))) | refine AW.ret ?_ | refine AW.exit ?_ | refine Then.ret ?_ | refine Then.exit ?_ | refine InB.ret ?_ | refine InB.here ?_ | refine InB.off rfl ?_ | refine Rnd.ret ?_ | refine Rnd.exit ?_ | refine AW.drawW mixed (by kernel_rfl) ?_))
  all_goals first
    | (exfalso; exact hw hc)
    | (refine RQ.fin rfl rfl (congrArg bav ?_); simp [dec_eq]; done)
theorem done_core (f g s : List Node) (L M : List Change) (h off cnt w x : Int) (v : List Int) (k1 k2 : Int) (hf : Fit f) (hg : Fit g) (hs : Fit s) (hgl : g.length = f.length)
    (c1 : PureC Tryz.prog 19 [fav f, iav h, u32 off, u32 cnt, .imm (.sl (v.map u16))] (.tup [fav g, .imm (.sl (L.map Change.iv)), iav 0]))
    (c2 : PureC Tryz.prog 30 [fav f, .imm (.sl (L.map Change.iv))] (.tup [fav g, iav k1, iav 0]))
    (hat : ∀ i : Int, 0 ≤ i → i < f.length → i + 1 ≠ h → atI g i = atI f i)
    (c3 : PureC Tryz.prog 12 [fav g, iav h, u32 off] (.tup [fav s, iav x, .imm (.sl (M.map Change.iv)), iav w])) (hw : w ≠ 0 → x = 0 ∧ M = [])
    (c4 : w = 0 → PureC Tryz.prog 30 [fav g, .imm (.sl (M.map Change.iv))] (.tup [fav s, iav k2, iav 0])) : PureC Tryz.prog 9 [fav f, iav h, u32 off, u32 cnt, .imm (.sl (v.map u16))] (bav true) := by
  have hlf := hf.len
  have hmf : (f.map Node.iv).length = f.length := List.length_map _
  have hmg : (g.map Node.iv).length = g.length := List.length_map _
  have s1 := rSame_c g g hg
  rw [show dec (g = g) = true by rw [dec_true]] at s1
  have s2 := rSame_c s s hs
  rw [show dec (s = s) = true by rw [dec_true]] at s2
  refine PureC.mk tabs Tryz.func9 128 [.tmp 10] rfl rfl rfl rfl rfl ?_; intro w0 X
  (repeat' (first | ((with_reducible show AL _ _ _ _ _); first | (refine AL.step tabs rfl ?_; try dsimp only [len, List.nil_append, List.cons_append]) | refine AL.op rfl (OpOK.call rfl rfl rfl rfl lives_c rfl) ?_ | refine AL.op rfl (OpOK.call rfl rfl rfl rfl c1 rfl) ?_ | refine AL.op rfl (OpOK.call rfl rfl rfl rfl c2 rfl) ?_ | refine AL.op rfl (OpOK.call rfl rfl rfl rfl s1 rfl) ?_ | refine AL.nil ?_ | (refine AL.gsplitE rfl rfl rfl (fun hc => ?_) (fun hc => ?_) <;> (fail_if_success (exact absurd hc (by decide))) <;> (try simp only [hsx] at hc) <;> (try first | (exfalso; omega) | contradiction | (exfalso; simp [dec_eq] at hc; done))) | (refine AL.op rfl (OpOK.ari64 rfl rfl rfl rfl rfl (by omega) (by omega)) ?_) | (refine AL.op rfl (OpOK.index_map tabs rfl rfl rfl rfl rfl rfl rfl (fun _ => rfl) (by decide) (by omega) (by omega)) ?_)) | ((with_reducible show DQ _ _ _ _ _ _); first | refine DQ.stepc (LS.val tabs rfl rfl rfl) rfl rfl rfl rfl rfl ?_ | refine DQ.stepc (LS.skip rfl rfl) rfl rfl rfl rfl rfl ?_ | refine DQ.nilM (by kernel_rfl) ?_ | refine DQ.stepc (LS.ari64 rfl rfl rfl rfl rfl rfl (by omega) (by omega)) rfl rfl rfl rfl rfl ?_ | refine DQ.stepc (LS.index_map tabs rfl rfl rfl rfl rfl rfl rfl rfl (fun _ => rfl) (by decide) (by omega) (by omega)) rfl rfl rfl rfl rfl ?_ | (refine DQ.gsplitE rfl rfl rfl (fun hc => ?_) (fun hc => ?_) <;> (fail_if_success (exact absurd hc (by decide))) <;> (try simp only [hsx] at hc) <;> (try first | (exfalso; omega) | contradiction | (exfalso; simp [dec_eq] at hc; done)))) | refine AW.seq ?_ | refine AW.region ?_ | refine Then.norm ?_ | refine AW.skip ?_ | refine AW.block ?_ | refine InB.norm ?_ | refine AW.condT rfl ?_ | refine AW.condF rfl ?_ | (refine AW.cond rfl (fun hc => ?_) (fun hc => ?_) <;> (try simp only [hsx] at hc) <;> (try first | (exfalso; omega) | contradiction | (exfalso; simp [dec_eq] at hc; done))) | refine AW.ret ?_ | refine AW.exit ?_ | refine Then.ret ?_ | refine Then.exit ?_ | refine InB.ret ?_ | refine InB.here ?_ | refine InB.off rfl ?_ | refine Rnd.ret ?_ | refine Rnd.exit ?_ | refine AW.drawW mixed (by kernel_rfl) ?_))
  refine AW.loop (α := Int) (fun i => ⟨[(1, iav h), (2, u32 off), (5, .ptr 0 1 0 0), (11, .ptr 1 1 0 0), (73, iav (f.map Node.iv).length), (74, iav i)], [⟨24, 1, [[.imm (.sl ((f).map Node.iv))]]⟩, ⟨24, 1, [[.imm (.sl ((g).map Node.iv))]]⟩]⟩) (fun i => 0 ≤ i ∧ i ≤ f.length) (fun i => (f.length - i).toNat) 0 (Le.cut 2 rfl (by repeat' (first | exact trivial | refine ⟨rfl, ?_⟩)) rfl rfl (Nat.zero_le _)) ⟨by omega, by omega⟩ ?_
  intro i ⟨i0, i1⟩
  by_cases hi : i < f.length
  · by_cases hih : i + 1 = h
    · (repeat' (first | ((with_reducible show AL _ _ _ _ _); first | (refine AL.step tabs rfl ?_; try dsimp only [len, List.nil_append, List.cons_append]) | refine AL.nil ?_ | (refine AL.gsplitE rfl rfl rfl (fun hc => ?_) (fun hc => ?_) <;> (fail_if_success (exact absurd hc (by decide))) <;> (try simp only [hsx] at hc) <;> (try first | (exfalso; omega) | contradiction | (exfalso; simp [dec_eq] at hc; done))) | (refine AL.op rfl (OpOK.ari64 rfl rfl rfl rfl rfl (by omega) (by omega)) ?_) | (refine AL.op rfl (OpOK.index_map tabs rfl rfl rfl rfl rfl rfl rfl (fun _ => rfl) (by decide) (by omega) (by omega)) ?_)) | ((with_reducible show DQ _ _ _ _ _ _); first | refine DQ.stepc (LS.val tabs rfl rfl rfl) rfl rfl rfl rfl rfl ?_ | refine DQ.stepc (LS.skip rfl rfl) rfl rfl rfl rfl rfl ?_ | refine DQ.nilM (by kernel_rfl) ?_ | refine DQ.stepc (LS.ari64 rfl rfl rfl rfl rfl rfl (by omega) (by omega)) rfl rfl rfl rfl rfl ?_ | refine DQ.stepc (LS.index_map tabs rfl rfl rfl rfl rfl rfl rfl rfl (fun _ => rfl) (by decide) (by omega) (by omega)) rfl rfl rfl rfl rfl ?_ | (refine DQ.gsplitE rfl rfl rfl (fun hc => ?_) (fun hc => ?_) <;> (fail_if_success (exact absurd hc (by decide))) <;> (try simp only [hsx] at hc) <;> (try first | (exfalso; omega) | contradiction | (exfalso; simp [dec_eq] at hc; done)))) | (exfalso; omega) | refine AW.seq ?_ | refine AW.region ?_ | refine Then.norm ?_ | refine AW.skip ?_ | refine AW.block ?_ | refine InB.norm ?_ | refine AW.condT rfl ?_ | refine AW.condF rfl ?_ | (refine AW.cond rfl (fun hc => ?_) (fun hc => ?_) <;> (try simp only [hsx] at hc) <;> (try first | (exfalso; omega) | contradiction | (exfalso; simp [dec_eq] at hc; done))) | refine AW.ret ?_ | refine AW.exit ?_ | refine Then.ret ?_ | refine Then.exit ?_ | refine InB.ret ?_ | refine InB.here ?_ | refine InB.off rfl ?_ | refine Rnd.ret ?_ | refine Rnd.exit ?_ | refine AW.drawW mixed (by kernel_rfl) ?_))
      exact Rnd.norm (i + 1) (Le.cut 2 rfl (by repeat' (first | exact trivial | refine ⟨rfl, ?_⟩)) rfl rfl (Nat.zero_le _)) ⟨by omega, by omega⟩ (by omega)
    · have sn := rSameNode_c (atI f i) (atI g i) (hf.atI i i0 hi)
      rw [show dec (atI f i = atI g i) = true by rw [dec_true]; exact (hat i i0 hi hih).symm] at sn
      (repeat' (first | ((with_reducible show AL _ _ _ _ _); first | (refine AL.step tabs rfl ?_; try dsimp only [len, List.nil_append, List.cons_append]) | refine AL.nil ?_ | (refine AL.gsplitE rfl rfl rfl (fun hc => ?_) (fun hc => ?_) <;> (fail_if_success (exact absurd hc (by decide))) <;> (try simp only [hsx] at hc) <;> (try first | (exfalso; omega) | contradiction | (exfalso; simp [dec_eq] at hc; done))) | (refine AL.op rfl (OpOK.ari64 rfl rfl rfl rfl rfl (by omega) (by omega)) ?_) | (refine AL.op rfl (OpOK.index_map tabs rfl rfl rfl rfl rfl rfl rfl (fun _ => rfl) (by decide) (by omega) (by omega)) ?_)) | ((with_reducible show DQ _ _ _ _ _ _); first | refine DQ.stepc (LS.call rfl rfl rfl rfl rfl sn rfl) rfl rfl rfl rfl rfl ?_ | refine DQ.stepc (LS.val tabs rfl rfl rfl) rfl rfl rfl rfl rfl ?_ | refine DQ.stepc (LS.skip rfl rfl) rfl rfl rfl rfl rfl ?_ | refine DQ.nilM (by kernel_rfl) ?_ | refine DQ.stepc (LS.ari64 rfl rfl rfl rfl rfl rfl (by omega) (by omega)) rfl rfl rfl rfl rfl ?_ | refine DQ.stepc (LS.index_map tabs rfl rfl rfl rfl rfl rfl rfl rfl (fun _ => rfl) (by decide) (by omega) (by omega)) rfl rfl rfl rfl rfl ?_ | (refine DQ.gsplitE rfl rfl rfl (fun hc => ?_) (fun hc => ?_) <;> (fail_if_success (exact absurd hc (by decide))) <;> (try simp only [hsx] at hc) <;> (try first | (exfalso; omega) | contradiction | (exfalso; simp [dec_eq] at hc; done)))) | (exfalso; omega) | refine AW.seq ?_ | refine AW.region ?_ | refine Then.norm ?_ | refine AW.skip ?_ | refine AW.block ?_ | refine InB.norm ?_ | refine AW.condT rfl ?_ | refine AW.condF rfl ?_ | (refine AW.cond rfl (fun hc => ?_) (fun hc => ?_) <;> (try simp only [hsx] at hc) <;> (try first | (exfalso; omega) | contradiction | (exfalso; simp [dec_eq] at hc; done))) | refine AW.ret ?_ | refine AW.exit ?_ | refine Then.ret ?_ | refine Then.exit ?_ | refine InB.ret ?_ | refine InB.here ?_ | refine InB.off rfl ?_ | refine Rnd.ret ?_ | refine Rnd.exit ?_ | refine AW.drawW mixed (by kernel_rfl) ?_))
      exact Rnd.norm (i + 1) (Le.cut 2 rfl (by repeat' (first | exact trivial | refine ⟨rfl, ?_⟩)) rfl rfl (Nat.zero_le _)) ⟨by omega, by omega⟩ (by omega)
  · by_cases hw0 : w = 0
    · have c5 := c4 hw0
      (repeat' (first | ((with_reducible show AL _ _ _ _ _); first | (refine AL.step tabs rfl ?_; try dsimp only [len, List.nil_append, List.cons_append]) | refine AL.op rfl (OpOK.call rfl rfl rfl rfl c3 rfl) ?_ | refine AL.op rfl (OpOK.call rfl rfl rfl rfl c5 rfl) ?_ | refine AL.op rfl (OpOK.call rfl rfl rfl rfl s2 rfl) ?_ | refine AL.nil ?_ | (refine AL.gsplitE rfl rfl rfl (fun hc => ?_) (fun hc => ?_) <;> (fail_if_success (exact absurd hc (by decide))) <;> (try simp only [hsx] at hc) <;> (try first | (exfalso; omega) | contradiction | (exfalso; simp [dec_eq] at hc; done))) | (refine AL.op rfl (OpOK.ari64 rfl rfl rfl rfl rfl (by omega) (by omega)) ?_) | (refine AL.op rfl (OpOK.index_map tabs rfl rfl rfl rfl rfl rfl rfl (fun _ => rfl) (by decide) (by omega) (by omega)) ?_)) | ((with_reducible show DQ _ _ _ _ _ _); first | refine DQ.stepc (LS.val tabs rfl rfl rfl) rfl rfl rfl rfl rfl ?_ | refine DQ.stepc (LS.skip rfl rfl) rfl rfl rfl rfl rfl ?_ | refine DQ.nilM (by kernel_rfl) ?_ | refine DQ.stepc (LS.ari64 rfl rfl rfl rfl rfl rfl (by omega) (by omega)) rfl rfl rfl rfl rfl ?_ | refine DQ.stepc (LS.index_map tabs rfl rfl rfl rfl rfl rfl rfl rfl (fun _ => rfl) (by decide) (by omega) (by omega)) rfl rfl rfl rfl rfl ?_ | (refine DQ.gsplitE rfl rfl rfl (fun hc => ?_) (fun hc => ?_) <;> (fail_if_success (exact absurd hc (by decide))) <;> (try simp only [hsx] at hc) <;> (try first | (exfalso; omega) | contradiction | (exfalso; simp [dec_eq] at hc; done)))) | (exfalso; omega) | refine AW.seq ?_ | refine AW.region ?_ | refine Then.norm ?_ | refine AW.skip ?_ | refine AW.block ?_ | refine InB.norm ?_ | refine AW.condT rfl ?_ | refine AW.condF rfl ?_ | (refine AW.cond rfl (fun hc => ?_) (fun hc => ?_) <;> (try simp only [hsx] at hc) <;> (try first | (exfalso; omega) | contradiction | (exfalso; simp [dec_eq] at hc; done))) | refine AW.ret ?_ | refine AW.exit ?_ | refine Then.ret ?_ | refine Then.exit ?_ | refine InB.ret ?_ | refine InB.here ?_ | refine InB.off rfl ?_ | refine Rnd.ret ?_ | refine Rnd.exit ?_ | refine AW.drawW mixed (by kernel_rfl) ?_))
      all_goals (refine RQ.fin rfl rfl (congrArg bav ?_); simp [dec_eq]; done)
    · obtain ⟨hx0, hM⟩ := hw hw0
      subst hx0 hM
      (repeat' (first | ((with_reducible show AL _ _ _ _ _); first | (refine AL.step tabs rfl ?_; try dsimp only [len, List.nil_append, List.cons_append]) | refine AL.op rfl (OpOK.call rfl rfl rfl rfl c3 rfl) ?_ | refine AL.nil ?_ | (refine AL.gsplitE rfl rfl rfl (fun hc => ?_) (fun hc => ?_) <;> (fail_if_success (exact absurd hc (by decide))) <;> (try simp only [hsx] at hc) <;> (try first | (exfalso; omega) | contradiction | (exfalso; simp [dec_eq] at hc; done))) | (refine AL.op rfl (OpOK.ari64 rfl rfl rfl rfl rfl (by omega) (by omega)) ?_) | (refine AL.op rfl (OpOK.index_map tabs rfl rfl rfl rfl rfl rfl rfl (fun _ => rfl) (by decide) (by omega) (by omega)) ?_)) | ((with_reducible show DQ _ _ _ _ _ _); first | refine DQ.stepc (LS.val tabs rfl rfl rfl) rfl rfl rfl rfl rfl ?_ | refine DQ.stepc (LS.skip rfl rfl) rfl rfl rfl rfl rfl ?_ | refine DQ.nilM (by kernel_rfl) ?_ | refine DQ.stepc (LS.ari64 rfl rfl rfl rfl rfl rfl (by omega) (by omega)) rfl rfl rfl rfl rfl ?_ | refine DQ.stepc (LS.index_map tabs rfl rfl rfl rfl rfl rfl rfl rfl (fun _ => rfl) (by decide) (by omega) (by omega)) rfl rfl rfl rfl rfl ?_ | (refine DQ.gsplitE rfl rfl rfl (fun hc => ?_) (fun hc => ?_) <;> (fail_if_success (exact absurd hc (by decide))) <;> (try simp only [hsx] at hc) <;> (try first | (exfalso; omega) | contradiction | (exfalso; simp [dec_eq] at hc; done)))) | (exfalso; omega) | refine AW.seq ?_ | refine AW.region ?_ | refine Then.norm ?_ | refine AW.skip ?_ | refine AW.block ?_ | refine InB.norm ?_ | refine AW.condT rfl ?_ | refine AW.condF rfl ?_ | (refine AW.cond rfl (fun hc => ?_) (fun hc => ?_) <;> (try simp only [hsx] at hc) <;> (try first | (exfalso; omega) | contradiction | (exfalso; simp [dec_eq] at hc; done))) | refine AW.ret ?_ | refine AW.exit ?_ | refine Then.ret ?_ | refine Then.exit ?_ | refine InB.ret ?_ | refine InB.here ?_ | refine InB.off rfl ?_ | refine Rnd.ret ?_ | refine Rnd.exit ?_ | refine AW.drawW mixed (by kernel_rfl) ?_))
      all_goals (refine RQ.fin rfl rfl (congrArg bav ?_); simp [dec_eq]; done)
theorem putC_one (f : List Node) (h off cnt : Int) (v : List Int) : ([putC f h off cnt v] : List Change).length ≤ 4096 := by simp
theorem fit_nil : Fit [] := ⟨by simp, fun n hn => by cases hn⟩
theorem repl_text {f g : List Node} {h off cnt : Int} {v : List Int} (O : ReplO f h off cnt v g) : (nodeAt g h).kind = (nodeAt f h).kind := by rw [O.node, if_pos rfl]
theorem done_all (f : List Node) (h off cnt : Int) (v : List Int) (hf : Fit f) (h0 : 0 ≤ off) (h1 : off < 4294967296) (h2 : 0 ≤ cnt) (h3 : cnt < 4294967296) (hv : v.length ≤ 1000000000) : PureC Tryz.prog 9 [fav f, iav h, u32 off, u32 cnt, .imm (.sl (v.map u16))] (bav true) := by
  have c1 := replA_c f h off cnt v hf h0 h1 h2 h3 hv
  unfold replA ansP at c1
  by_cases he : cfP f h false = 0
  · rw [if_neg (by omega)] at c1
    obtain ⟨hr, hh, _, hd⟩ := cf_right he
    by_cases hw : (rpQ f h off cnt v).why = 0
    · rw [if_neg (by omega)] at c1
      obtain ⟨O, hL, hch⟩ := repl_out hf hr hh hd h0 h2 hw
      have hh1 := hh.1
      have hh2 := hh.2
      have hpos : 0 < f.length := by omega
      have c2 := all_c f (rpQ f h off cnt v).F (rpQ f h off cnt v).L hf hr hpos (by rw [hL]; simp) hch
      obtain ⟨g, hg⟩ : ∃ g, g = (rpQ f h off cnt v).F := ⟨_, rfl⟩
      rw [← hg] at c1 c2 O
      have hgl := O.len
      have hat : ∀ i : Int, 0 ≤ i → i < f.length → i + 1 ≠ h → atI g i = atI f i := by
        intro i i0 i1 hne
        have ef : inR f (i + 1) := ⟨by omega, by omega⟩
        have eg : inR g (i + 1) := ⟨by omega, by omega⟩
        have := O.node (i + 1)
        rw [if_neg hne, node_in ef, node_in eg, show i + 1 - 1 = i by omega] at this
        exact this
      have c3 := splitA_c g h off O.fit h0 h1
      unfold splitA at c3
      by_cases hg1 : cfP g h true = 0
      · rw [if_neg (by omega)] at c3
        obtain ⟨gr, gh, gt, _⟩ := cf_right hg1
        have gt := gt rfl
        by_cases ho : off ≤ (nodeAt g h).data.length
        · rw [if_neg (by omega)] at c3
          by_cases hw2 : (splQ g h off).why = 0
          · rw [if_neg (by omega)] at c3
            obtain ⟨_, S, _⟩ := split_out O.fit gr gh gt h0 ho hw2
            have hch2 := split_chain O.fit gr gh gt h0 ho
            have hl5 := lenQ O.fit gr gh gt h0 ho
            have c4 := all_c g (splQ g h off).F (splQ g h off).L O.fit gr (by omega) (by omega) hch2
            exact done_core f g _ _ _ h off cnt 0 _ v _ _ hf O.fit S.fit hgl c1 c2 hat c3 (fun h => absurd rfl h) (fun _ => c4)
          · rw [if_pos hw2] at c3
            exact done_core f g [] _ [] h off cnt _ 0 v _ 0 hf O.fit fit_nil hgl c1 c2 hat c3 (fun _ => ⟨rfl, rfl⟩) (fun e => absurd e hw2)
        · rw [if_pos (by omega)] at c3
          exact done_core f g [] _ [] h off cnt 14 0 v _ 0 hf O.fit fit_nil hgl c1 c2 hat c3 (fun _ => ⟨rfl, rfl⟩) (fun e => absurd e (by omega))
      · rw [if_pos hg1] at c3
        exact done_core f g [] _ [] h off cnt _ 0 v _ 0 hf O.fit fit_nil hgl c1 c2 hat c3 (fun _ => ⟨rfl, rfl⟩) (fun e => absurd e hg1)
    · rw [if_pos hw] at c1
      exact doneNo_c f h off cnt _ v hw c1
  · rw [if_pos he] at c1
    exact doneNo_c f h off cnt _ v he c1
end Go.Proofs.YtmhejcnaanocpaaGreat.A
namespace Go.Proofs.YtmhejcnaanocpaaGreat.A
open Go.RowKit
set_option linter.unusedVariables false
set_option linter.unusedSimpArgs false
variable {P : Program} {α β : Type}
def noX : Nat → Prop := fun _ => False
theorem bulk_part {H : Type} {d : DataW H} {l : List (DataW H)} (h : d ∈ l) : Rows.uptoBulk d ≤ Rows.uptoBulkAll l := by
  induction l with
  | nil => cases h
  | cons x r ih =>
    simp only [Rows.uptoBulkAll]
    cases List.mem_cons.1 h with
    | inl e => subst e; omega
    | inr e => have := ih e; omega
theorem bulk_pos {H : Type} (d : DataW H) : 1 ≤ Rows.uptoBulk d := by
  cases d with
  | lit l => cases l <;> simp [Rows.uptoBulk]
  | nil => simp [Rows.uptoBulk]
  | ptr d => simp [Rows.uptoBulk]
  | slice elems spare => simp [Rows.uptoBulk]
  | agg parts => simp [Rows.uptoBulk]
  | iface t d => simp [Rows.uptoBulk]
  | map entries => simp [Rows.uptoBulk]
  | held h => simp [Rows.uptoBulk]
theorem bulk_length {H : Type} (l : List (DataW H)) : l.length ≤ Rows.uptoBulkAll l := by
  induction l with
  | nil => simp [Rows.uptoBulkAll]
  | cons x r ih => have := bulk_pos x; simp only [Rows.uptoBulkAll, List.length_cons]; omega
/-- type t's data reads as some a, which is rd a in cells; a fits: Fit, of a and the data's bulk. -/
structure Opens (P : Program) (t : TypeId) (rd : α → List IV) (sz : Nat) (Fit : α → Nat → Prop) : Prop where
  len : ∀ a, (rd a).length = sz
  get : ∀ {H : Type} {enc : TypeId × Value → H} {w : World} {spare : Nat → Bool} {held : Bool} {fuel : Nat} {cs : List Value} {x : DataW H × List MemPlace},
    DataW.trod enc P w 0 spare held fuel t cs = some x → ∃ a : α, All2 (RepI w noX) (rd a) cs ∧ Fit a (Rows.uptoBulk x.1)
  mono : ∀ {a : α} {b b' : Nat}, b ≤ b' → Fit a b → Fit a b'
theorem Opens.int {t : TypeId} {k : IntKind} (ht : P.underlying t = some (.int k)) : Opens P t (fun n : Int => [.int k n]) 1 (fun _ _ => True) where
  len := fun _ => rfl
  mono := fun _ h => h
  get := by
    intro H enc w spare held fuel cs x h
    obtain ⟨n, rfl, rfl, hw⟩ := DataW.trod_int ht h
    exact ⟨n, .cons (.int _ _) .nil, trivial⟩
theorem Opens.bool {t : TypeId} (ht : P.underlying t = some .bool) : Opens P t (fun b : Bool => [.bool b]) 1 (fun _ _ => True) where
  len := fun _ => rfl
  mono := fun _ h => h
  get := by
    intro H enc w spare held fuel cs x h
    obtain ⟨n, rfl, rfl⟩ := DataW.trod_bool ht h
    exact ⟨n, .cons (.bool _) .nil, trivial⟩
theorem Opens.string {t : TypeId} (ht : P.underlying t = some .string) : Opens P t (fun s : ByteArray => [.str s]) 1 (fun _ _ => True) where
  len := fun _ => rfl
  mono := fun _ h => h
  get := by
    intro H enc w spare held fuel cs x h
    obtain ⟨n, rfl, rfl, hw⟩ := DataW.trod_string ht h
    exact ⟨n, .cons (.str _) .nil, trivial⟩
theorem pick_list {Q : Nat → α → Prop} : ∀ n : Nat, (∀ i, i < n → ∃ p, Q i p) → ∃ xs : List α, xs.length = n ∧ ∀ i p, xs[i]? = some p → Q i p
  | 0, _ => ⟨[], rfl, fun i p h => by simp at h⟩
  | n + 1, h => by
    obtain ⟨xs, hl, hq⟩ := pick_list n (fun i hi => h i (by omega))
    obtain ⟨p, hp⟩ := h n (by omega)
    refine ⟨xs ++ [p], by simp [hl], fun i q hi => ?_⟩
    by_cases e : i < xs.length
    · rw [List.getElem?_append_left e] at hi
      exact hq i q hi
    · have hlt := (List.getElem?_eq_some_iff.1 hi).1
      simp [hl] at hlt
      obtain rfl : i = n := by omega
      rw [List.getElem?_append_right (by omega), hl, Nat.sub_self] at hi
      simp at hi
      subst hi
      exact hp
theorem all2_pairs {R : IV → Value → Prop} {rd : α → List IV} : ∀ {l : List (α × List Value)}, (∀ p ∈ l, All2 R (rd p.1) p.2) → All2 R ((l.map Prod.fst).map rd).flatten (l.map Prod.snd).flatten
  | [], _ => .nil
  | p :: r, h => by
    simp only [List.map_cons, List.flatten_cons]
    exact (h p (by simp)).append (all2_pairs fun q hq => h q (by simp [hq]))
theorem add_addA (a : Addr) (i j : Nat) : (a.add i).add j = a.add (i + j) := by
  unfold Addr.add
  by_cases hi : i = 0
  · subst hi; simp
  · by_cases hj : j = 0
    · subst hj; simp
    · simp [hi, hj, Nat.add_assoc]
theorem Opens.slice {t e : TypeId} {rd : α → List IV} {sz : Nat} {Fit : α → Nat → Prop} (ht : P.underlying t = some (.slice e)) (hc : P.cellsOf e = sz) (hsz : 0 < sz) (he : Opens P e rd sz Fit) :
    Opens P t (fun xs : List α => [.sl (xs.map rd)]) 1 (fun xs b => xs.length < b ∧ ∀ x ∈ xs, Fit x b) where
  len := fun _ => rfl
  mono := fun h h2 => ⟨Nat.lt_of_lt_of_le h2.1 h, fun x hx => he.mono h (h2.2 x hx)⟩
  get := by
    intro H enc w spare held fuel cs x h
    rcases DataW.trod_slice ht h with ⟨rfl, rfl⟩ | ⟨a, len, cap, elems, rest, n, _, rfl, rfl, hb, hl, hm, hlen, hel, _, _⟩
    · exact ⟨[], .cons (.nil _ _) .nil, by simp [Rows.uptoBulk]⟩
    · have each : ∀ i : Nat, i < len → ∃ p : α × List Value, All2 (RepI w noX) (rd p.1) p.2 ∧ p.2.length = sz ∧ (∀ j u, p.2[j]? = some u → w.cell? (a.add (i * sz + j)) = some u) ∧ ∃ y : DataW H × List MemPlace, elems[i]? = some y ∧ Fit p.1 (Rows.uptoBulk y.1) := by
        intro i hi
        have h1 := hel i hi
        obtain ⟨y, hy⟩ : ∃ y, elems[i]? = some y := ⟨_, List.getElem?_eq_getElem (by omega)⟩
        rw [hy, hc] at h1
        obtain ⟨c, hcs, htr⟩ := Option.bind_eq_some_iff.1 h1
        obtain ⟨p, hK, hF⟩ := he.get htr
        have hcl : c.length = sz := by rw [← hK.length, he.len]
        refine ⟨(p, c), hK, hcl, fun j u hj => ?_, y, hy, hF⟩
        unfold World.cells? at hcs
        rw [if_pos (Nat.zero_le _)] at hcs
        have hj2 : j < sz := by
          have := (List.getElem?_eq_some_iff.1 hj).1
          rw [← hcl]
          exact this
        have := mapM_some_get hcs j j (List.getElem?_range hj2)
        rw [← add_addA, this, hj]
      obtain ⟨xs, hxl, hxq⟩ := pick_list len each
      have hall : ∀ p ∈ xs, ∃ i, xs[i]? = some p := fun p hp => by
        obtain ⟨j, hj, rfl⟩ := List.getElem_of_mem hp
        exact ⟨j, List.getElem?_eq_getElem hj⟩
      refine ⟨xs.map Prod.fst, .cons ?_ .nil, ?_, ?_⟩
      · by_cases h0 : xs = []
        · subst h0
          simp at hxl
          subst hxl
          exact .nil _ _
        · have hr2 : ∀ r ∈ xs.map Prod.snd, r.length = sz := by
            intro r hr
            obtain ⟨p, hp, rfl⟩ := List.mem_map.1 hr
            obtain ⟨i, hi⟩ := hall p hp
            exact (hxq i p hi).2.1
          refine .sl _ a len cap sz (xs.map Prod.snd).flatten (by simpa using h0) hsz (by simp [hxl]) hl (fun h => h) ?_ ?_ (all2_pairs fun p hp => ?_)
          · intro r hr
            obtain ⟨p, _, rfl⟩ := List.mem_map.1 hr
            exact he.len p
          · intro k u hk
            have hk2 := (List.getElem?_eq_some_iff.1 hk).1
            rw [flat_len hr2] at hk2
            have hdm : k = k / sz * sz + k % sz := by rw [Nat.mul_comm]; exact (Nat.div_add_mod k sz).symm
            have hlt : k / sz < (xs.map Prod.snd).length := (Nat.div_lt_iff_lt_mul hsz).2 hk2
            obtain ⟨r, hr⟩ : ∃ r, (xs.map Prod.snd)[k / sz]? = some r := ⟨_, List.getElem?_eq_getElem hlt⟩
            have hg := flat_get hr2 hr (Nat.mod_lt k hsz)
            rw [← hdm, hk] at hg
            rw [List.getElem?_map] at hr
            obtain ⟨p, hp, rfl⟩ := Option.map_eq_some_iff.1 hr
            have := (hxq _ p hp).2.2.1 _ u hg.symm
            rw [← hdm] at this
            exact this
          · obtain ⟨i, hi⟩ := hall p hp
            exact (hxq i p hi).1
      · have h1 := bulk_length (elems.map (·.1))
        simp [Rows.uptoBulk] at h1 ⊢
        omega
      · intro p hp
        obtain ⟨q, hq, rfl⟩ := List.mem_map.1 hp
        obtain ⟨i, hi⟩ := hall q hq
        obtain ⟨_, _, _, y, hy, hF⟩ := hxq i q hi
        refine he.mono ?_ hF
        have hm : y.1 ∈ elems.map (·.1) := List.mem_map_of_mem (List.mem_of_getElem? hy)
        have := bulk_part hm
        simp only [Rows.uptoBulk]
        omega
/-- fields in line, from cell o on -/
structure OpensF (P : Program) (fs : List Field) (o : Nat) (rd : α → List IV) (sz : Nat) (Fit : α → Nat → Prop) : Prop where
  len : ∀ a, (rd a).length = sz
  get : ∀ {H : Type} {enc : TypeId × Value → H} {w : World} {spare : Nat → Bool} {held : Bool} {fuel : Nat} {cs : List Value} {xs : List (DataW H × List MemPlace)}, cs.length = o + sz →
    (fs.mapM fun f => DataW.trod enc P w 0 spare held fuel f.type ((cs.drop f.offset).take (P.cellsOf f.type))) = some xs → ∃ a : α, All2 (RepI w noX) (rd a) (cs.drop o) ∧ Fit a (Rows.uptoBulkAll (xs.map (·.1)))
  mono : ∀ {a : α} {b b' : Nat}, b ≤ b' → Fit a b → Fit a b'
theorem OpensF.one {f : Field} {o : Nat} {rd : α → List IV} {sz : Nat} {Fit : α → Nat → Prop} (h : Opens P f.type rd sz Fit) (ho : f.offset = o) (hc : P.cellsOf f.type = sz) : OpensF P [f] o rd sz Fit where
  len := h.len
  mono := h.mono
  get := by
    intro H enc w spare held fuel cs xs hl hx
    have h0 := mapM_some_get hx 0 f rfl
    have hlen := mapM_some_length hx
    obtain ⟨y, rfl⟩ : ∃ y, xs = [y] := by
      match xs, hlen with
      | [y], _ => exact ⟨y, rfl⟩
    simp at h0
    rw [ho, hc, List.take_of_length_le (by simp; omega)] at h0
    obtain ⟨a, hK, hF⟩ := h.get h0
    exact ⟨a, hK, h.mono (by simp [Rows.uptoBulkAll]) hF⟩
theorem OpensF.cons {f : Field} {fs : List Field} {o : Nat} {rd : α → List IV} {rd2 : β → List IV} {sz sz2 : Nat} {Fit : α → Nat → Prop} {Fit2 : β → Nat → Prop} (h : Opens P f.type rd sz Fit) (ho : f.offset = o) (hc : P.cellsOf f.type = sz) (h2 : OpensF P fs (o + sz) rd2 sz2 Fit2) :
    OpensF P (f :: fs) o (fun p : α × β => rd p.1 ++ rd2 p.2) (sz + sz2) (fun x b => Fit x.1 b ∧ Fit2 x.2 b) where
  len := fun p => by rw [List.length_append, h.len, h2.len]
  mono := fun hb hf => ⟨h.mono hb hf.1, h2.mono hb hf.2⟩
  get := by
    intro H enc w spare held fuel cs xs hl hx
    have hlen := mapM_some_length hx
    obtain ⟨y, ys, rfl⟩ : ∃ y ys, xs = y :: ys := by
      match xs, hlen with
      | y :: ys, _ => exact ⟨y, ys, rfl⟩
    have h0 := mapM_some_get hx 0 f rfl
    simp at h0
    rw [ho, hc] at h0
    obtain ⟨a, hK, hF⟩ := h.get h0
    have hx2 : (fs.mapM fun f => DataW.trod enc P w 0 spare held fuel f.type ((cs.drop f.offset).take (P.cellsOf f.type))) = some ys := by
      simp only [List.mapM_cons, Option.bind_eq_bind, Option.bind_eq_some_iff] at hx
      obtain ⟨y', hy', ys', hys, he⟩ := hx
      simp at he
      rw [hys, he.2]
    obtain ⟨b, hK2, hF2⟩ := h2.get (by rw [hl]; omega) hx2
    refine ⟨(a, b), ?_, h.mono (by simp [Rows.uptoBulkAll]) hF, h2.mono (by simp [Rows.uptoBulkAll]) hF2⟩
    have := hK.append hK2
    rw [← List.drop_drop, List.take_append_drop] at this
    exact this
theorem Opens.struct {t : TypeId} {fs : Array Field} {rd : α → List IV} {sz : Nat} {Fit : α → Nat → Prop} (ht : P.underlying t = some (.struct fs)) (hf : OpensF P fs.toList 0 rd sz Fit) (hc : P.cellsOf t = sz) : Opens P t rd sz Fit where
  len := hf.len
  mono := fun hb h => hf.mono hb h
  get := by
    intro H enc w spare held fuel cs x h
    cases fuel with
    | zero => simp [DataW.trod] at h
    | succ n =>
      unfold DataW.trod at h
      rw [ht] at h
      simp only at h
      split at h
      · rename_i hl
        obtain ⟨xs, hxs, rfl⟩ := Option.map_eq_some_iff.1 h
        obtain ⟨a, hK, hF⟩ := hf.get (by rw [hl, hc]; omega) hxs
        refine ⟨a, by simpa using hK, hf.mono (by simp [Rows.uptoBulk]) hF⟩
      · cases h
theorem Opens.iso {t : TypeId} {rd : α → List IV} {rd' : β → List IV} {sz : Nat} {Fit : α → Nat → Prop} {Fit' : β → Nat → Prop} (h : Opens P t rd sz Fit) (g : α → β) (hr : ∀ a, rd' (g a) = rd a) (gi : β → α) (hg : ∀ b, g (gi b) = b) (hf : ∀ a b, Fit a b → Fit' (g a) b) (hm : ∀ {a : β} {b b' : Nat}, b ≤ b' → Fit' a b → Fit' a b') : Opens P t rd' sz Fit' where
  len := fun b => by rw [← hg b, hr]; exact h.len _
  mono := hm
  get := by
    intro H enc w spare held fuel cs x hx
    obtain ⟨a, h1, h2⟩ := h.get hx
    exact ⟨g a, by rw [hr]; exact h1, hf _ _ h2⟩
end Go.Proofs.YtmhejcnaanocpaaGreat.A
namespace Go.Proofs.YtmhejcnaanocpaaGreat.A
open Go.RowKit
set_option linter.unusedVariables false
set_option linter.unusedSimpArgs false
theorem opName : Opens Tryz.prog 39 Name.iv 3 (fun _ _ => True) :=
  (Opens.struct Tryz.underlying39 (.cons (.string Tryz.underlying9) rfl (by kernel_rfl) (.cons (.string Tryz.underlying9) rfl (by kernel_rfl) (.one (.string Tryz.underlying9) rfl (by kernel_rfl)))) (by kernel_rfl)).iso
    (fun p => ⟨p.1, p.2.1, p.2.2⟩) (fun _ => rfl) (fun n => (n.sp, n.pf, n.lc)) (fun _ => rfl) (fun _ _ _ => trivial) (fun _ h => h)
theorem opAttr : Opens Tryz.prog 104 Attr.iv 4 (fun _ _ => True) :=
  (Opens.struct Tryz.underlying104 (.cons opName rfl (by kernel_rfl) (.one (.string Tryz.underlying9) rfl (by kernel_rfl))) (by kernel_rfl)).iso
    (fun p => ⟨p.1, p.2⟩) (fun _ => rfl) (fun n => (n.name, n.value)) (fun _ => rfl) (fun _ _ _ => trivial) (fun _ h => h)
theorem opNode : Opens Tryz.prog 44 Node.iv 16 (fun n b => n.data.length < b ∧ n.attrs.length < b ∧ n.kids.length < b) :=
  (Opens.struct Tryz.underlying44 (.cons (.int Tryz.underlying37) rfl (by kernel_rfl) (.cons opName rfl (by kernel_rfl) (.cons (.string Tryz.underlying9) rfl (by kernel_rfl) (.cons (.string Tryz.underlying9) rfl (by kernel_rfl)
    (.cons (.slice Tryz.underlying36 (by kernel_rfl) (by decide) (.int Tryz.underlying55)) rfl (by kernel_rfl) (.cons (.slice Tryz.underlying40 (by kernel_rfl) (by decide) opAttr) rfl (by kernel_rfl)
    (.cons (.int Tryz.underlying3) rfl (by kernel_rfl) (.cons (.slice Tryz.underlying41 (by kernel_rfl) (by decide) (.int Tryz.underlying3)) rfl (by kernel_rfl)
    (.cons (.int Tryz.underlying3) rfl (by kernel_rfl) (.cons (.int Tryz.underlying3) rfl (by kernel_rfl) (.cons (.int Tryz.underlying3) rfl (by kernel_rfl) (.cons (.int Tryz.underlying42) rfl (by kernel_rfl) (.cons (.bool Tryz.underlying4) rfl (by kernel_rfl) (.one (.bool Tryz.underlying4) rfl (by kernel_rfl))))))))))))))) (by kernel_rfl)).iso
    (fun p => ⟨p.1, p.2.1, p.2.2.1, p.2.2.2.1, p.2.2.2.2.1, p.2.2.2.2.2.1, p.2.2.2.2.2.2.1, p.2.2.2.2.2.2.2.1, p.2.2.2.2.2.2.2.2.1, p.2.2.2.2.2.2.2.2.2.1, p.2.2.2.2.2.2.2.2.2.2.1, p.2.2.2.2.2.2.2.2.2.2.2.1, p.2.2.2.2.2.2.2.2.2.2.2.2.1, p.2.2.2.2.2.2.2.2.2.2.2.2.2⟩) (fun _ => rfl)
    (fun n => (n.kind, n.name, n.pub, n.sys, n.data, n.attrs, n.parent, n.kids, n.doc, n.host, n.shadow, n.mode, n.manual, n.html)) (fun _ => rfl) (fun _ _ h => ⟨h.2.2.2.2.1.1, h.2.2.2.2.2.1.1, h.2.2.2.2.2.2.2.1.1⟩) (fun h h2 => ⟨Nat.lt_of_lt_of_le h2.1 h, Nat.lt_of_lt_of_le h2.2.1 h, Nat.lt_of_lt_of_le h2.2.2 h⟩)
theorem opForest : Opens Tryz.prog 24 (fun f : List Node => [.sl (f.map Node.iv)]) 1 (fun f b => f.length < b ∧ ∀ n ∈ f, n.data.length < b ∧ n.attrs.length < b ∧ n.kids.length < b) :=
  Opens.struct Tryz.underlying24 (.one (.slice Tryz.underlying22 (by kernel_rfl) (by decide) opNode) rfl (by kernel_rfl)) (by kernel_rfl)
theorem fit_bulk {f : List Node} {b : Nat} (hb : b ≤ 1048577) (h : f.length < b ∧ ∀ n ∈ f, n.data.length < b ∧ n.attrs.length < b ∧ n.kids.length < b) : Fit f :=
  ⟨by omega, fun n hn => by have := h.2 n hn; exact ⟨by omega, by omega, by omega⟩⟩
theorem argForest {w : World} {f : List Node} {cs : List Value} (h : All2 (RepI w noX) [.sl (f.map Node.iv)] cs) : RepA (M0 w noX) (fav f) (.agg cs.toArray) :=
  .agg _ _ (by
    cases h with
    | cons h1 h2 => cases h2; exact .cons (.imm _ _ h1) .nil)
theorem argInt {w : World} {k : IntKind} {n : Int} {v : Value} (h : All2 (RepI w noX) [.int k n] [v]) : RepA (M0 w noX) (.imm (.int k n)) v := by
  cases h with
  | cons h1 h2 => exact .imm _ _ h1
theorem argBool {w : World} {n : Bool} {v : Value} (h : All2 (RepI w noX) [.bool n] [v]) : RepA (M0 w noX) (.imm (.bool n)) v := by
  cases h with
  | cons h1 h2 => exact .imm _ _ h1
end Go.Proofs.YtmhejcnaanocpaaGreat.A
namespace Go.Proofs.YtmhejcnaanocpaaGreat.A
open Go.RowKit
set_option linter.unusedVariables false
set_option linter.unusedSimpArgs false
theorem Opens.intR {P : Program} {t : TypeId} {k : IntKind} (ht : P.underlying t = some (.int k)) : Opens P t (fun n : Int => [.int k n]) 1 (fun n _ => k.min ≤ n ∧ n ≤ k.max) where
  len := fun _ => rfl
  mono := fun _ h => h
  get := by
    intro H enc w spare held fuel cs x h
    obtain ⟨n, rfl, rfl, hw⟩ := DataW.trod_int ht h
    refine ⟨n, .cons (.int _ _) .nil, ?_⟩
    unfold Lit.wf at hw
    rw [Bool.and_eq_true] at hw
    exact ⟨of_decide_eq_true hw.1, of_decide_eq_true hw.2⟩
theorem u32lo {n : Int} (h : IntKind.u32.min ≤ n ∧ n ≤ IntKind.u32.max) : 0 ≤ n := h.1
theorem u32hi {n : Int} (h : IntKind.u32.min ≤ n ∧ n ≤ IntKind.u32.max) : n < 4294967296 := by
  have : IntKind.u32.max = 4294967295 := by decide
  omega
theorem argSl {w : World} {rows : List (List IV)} {v : Value} (h : All2 (RepI w noX) [.sl rows] [v]) : RepA (M0 w noX) (.imm (.sl rows)) v := by
  cases h with
  | cons h1 h2 => exact .imm _ _ h1
theorem units_len {xs : List Int} {Q : Prop} (h : xs.length < 1048577 ∧ Q) : xs.length ≤ 1000000000 := by
  have := h.1
  omega
end Go.Proofs.YtmhejcnaanocpaaGreat.A
