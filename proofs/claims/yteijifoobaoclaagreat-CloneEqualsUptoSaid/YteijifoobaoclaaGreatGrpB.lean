/- Contracts: the reference of layer 3: kids, ring. -/
import Derived.Test.YteijifoobaoclaaGreatFrC
import Derived.Test.YteijifoobaoclaaGreatFnB
import Derived.Test.YteijifoobaoclaaGreatFnG
import Derived.Test.YteijifoobaoclaaGreatFnF
namespace Go.Proofs.YteijifoobaoclaaGreat.A
set_option linter.unusedVariables false
set_option linter.unusedSimpArgs false
set_option maxRecDepth 100000
set_option maxHeartbeats 4000000
theorem dec_dec' (p : Prop) [Decidable p] : dec p = decide p := dec_eq p
theorem rKids_c (f : List Node) (k : Int) (l : List Int) (hl : f.length ≤ 1000000000) (hk : l.length ≤ 1000000000) : PureC Tryz.prog 142 [fav f, kav k, .imm (.sl (l.map i64))] (bav (famGo (fun k => (nodeAt f k).kind) (dec (k = 9)) l 0 0)) := by
  refine PureC.mk tabs Tryz.func142 53 [.tmp 6] rfl rfl rfl rfl rfl ?_; intro w0 X
  (repeat' (first | ((with_reducible show AL _ _ _ _ _); first | (refine AL.step tabs rfl ?_; try dsimp only [len, List.nil_append, List.cons_append]) | refine AL.nil ?_ | (refine AL.gsplitE rfl rfl rfl (fun hc => ?_) (fun hc => ?_) <;> (fail_if_success (exact absurd hc (by decide))) <;> (try simp only [hsx] at hc) <;> (try first | (exfalso; omega) | contradiction | (exfalso; simp [dec_eq] at hc; done))) | (refine AL.op rfl (OpOK.ari64 rfl rfl rfl rfl rfl (by omega) (by omega)) ?_) | (refine AL.op rfl (OpOK.index_map tabs rfl rfl rfl rfl rfl rfl rfl (fun _ => rfl) (by decide) (by omega) (by omega)) ?_) | (refine AL.op rfl (OpOK.eqs rfl rfl rfl rfl eqt45 rfl rfl) ?_) | (refine AL.op rfl (OpOK.eqs rfl rfl rfl rfl eqt68 rfl rfl) ?_) | (refine AL.op rfl (OpOK.eqs rfl rfl rfl rfl eqt146 rfl rfl) ?_) | (refine AL.op rfl (OpOK.eqs rfl rfl rfl rfl eqt151 rfl rfl) ?_)) | fail | refine AW.seq ?_ | refine AW.region ?_ | refine Then.norm ?_ | refine AW.skip ?_ | refine AW.block ?_ | refine InB.norm ?_ | refine AW.condT rfl ?_ | refine AW.condF rfl ?_ | (refine AW.cond rfl (fun hc => ?_) (fun hc => ?_) <;> (try simp only [hsx] at hc) <;> (try first | (exfalso; omega) | contradiction | (exfalso; simp [dec_eq] at hc; done))) | refine AW.ret ?_ | refine AW.exit ?_ | refine Then.ret ?_ | refine Then.exit ?_ | refine InB.ret ?_ | refine InB.here ?_ | refine InB.off rfl ?_ | refine Rnd.ret ?_ | refine Rnd.exit ?_))
  refine AW.loop (α := Int × Int × Int) (fun x => ⟨[(1, kav k), (3, .ptr 0 1 0 0), (7, iav x.2.1), (8, iav x.2.2), (11, .imm (.sl (l.map i64))), (12, iav (l.map i64).length), (13, iav x.1)], [⟨24, 1, [[.imm (.sl (f.map Node.iv))]]⟩]⟩) (fun x => 0 ≤ x.1 ∧ x.1 ≤ l.length ∧ 0 ≤ x.2.1 ∧ x.2.1 ≤ x.1 ∧ 0 ≤ x.2.2 ∧ x.2.2 ≤ x.1 ∧ famGo (fun k => (nodeAt f k).kind) (dec (k = 9)) (l.drop x.1.toNat) x.2.1 x.2.2 = famGo (fun k => (nodeAt f k).kind) (dec (k = 9)) l 0 0) (fun x => (l.length - x.1).toNat) (0, 0, 0) (Le.cut 1 rfl (by repeat' (first | exact trivial | refine ⟨rfl, ?_⟩)) rfl rfl (Nat.zero_le _)) ⟨by simp, by simp, by simp, by simp, by simp, by simp, rfl⟩ ?_
  rintro ⟨i, e, d⟩ ⟨h0, h1, h3, h4, h5, h6, h2⟩
  simp only at h0 h1 h2 h3 h4 h5 h6
  (repeat' (first | ((with_reducible show AL _ _ _ _ _); first | (refine AL.step tabs rfl ?_; try dsimp only [len, List.nil_append, List.cons_append]) | refine AL.op rfl (OpOK.call rfl rfl rfl rfl (rKind_c f _ hl) rfl) ?_ | refine AL.nil ?_ | (refine AL.gsplitE rfl rfl rfl (fun hc => ?_) (fun hc => ?_) <;> (fail_if_success (exact absurd hc (by decide))) <;> (try simp only [hsx] at hc) <;> (try first | (exfalso; omega) | contradiction | (exfalso; simp [dec_eq] at hc; done))) | (refine AL.op rfl (OpOK.ari64 rfl rfl rfl rfl rfl (by omega) (by omega)) ?_) | (refine AL.op rfl (OpOK.index_map tabs rfl rfl rfl rfl rfl rfl rfl (fun _ => rfl) (by decide) (by omega) (by omega)) ?_) | (refine AL.op rfl (OpOK.eqs rfl rfl rfl rfl eqt45 rfl rfl) ?_) | (refine AL.op rfl (OpOK.eqs rfl rfl rfl rfl eqt68 rfl rfl) ?_) | (refine AL.op rfl (OpOK.eqs rfl rfl rfl rfl eqt146 rfl rfl) ?_) | (refine AL.op rfl (OpOK.eqs rfl rfl rfl rfl eqt151 rfl rfl) ?_)) | refine AW.seq ?_ | refine AW.region ?_ | refine Then.norm ?_ | refine AW.skip ?_ | refine AW.block ?_ | refine InB.norm ?_ | refine AW.condT rfl ?_ | refine AW.condF rfl ?_ | (refine AW.cond rfl (fun hc => ?_) (fun hc => ?_) <;> (try simp only [hsx] at hc) <;> (try first | (exfalso; omega) | contradiction | (exfalso; simp [dec_eq] at hc; done))) | refine AW.ret ?_ | refine AW.exit ?_ | refine Then.ret ?_ | refine Then.exit ?_ | refine InB.ret ?_ | refine InB.here ?_ | refine InB.off rfl ?_ | refine Rnd.ret ?_ | refine Rnd.exit ?_))
  all_goals first
    | (refine RQ.fin rfl rfl (congrArg bav ?_); rw [← h2]; clear h2; (first | rw [drop_next h0 (by assumption)] | rw [drop_end (by assumption)]); simp [famGo, dec_T, dec_F, dec_eq, *] <;> omega)
    | (refine RQ.fin rfl rfl (congrArg bav ?_); rw [← h2]; clear h2; (first | rw [drop_next h0 (by assumption)] | rw [drop_end (by assumption)]); simp [famGo, dec_T, dec_F, dec_eq, *]; done)
    | (refine Rnd.norm (i + 1, e + 1, d) (Le.cut 1 rfl (by repeat' (first | exact trivial | refine ⟨rfl, ?_⟩)) rfl rfl (Nat.zero_le _)) ⟨?_, ?_, ?_, ?_, ?_, ?_, ?_⟩ ?_ <;> simp only <;> first | omega | (rw [← h2]; clear h2; rw [drop_next h0 (by assumption)]; simp [famGo, dec_T, dec_F, dec_eq, *]; done))
    | (refine Rnd.norm (i + 1, e, d + 1) (Le.cut 1 rfl (by repeat' (first | exact trivial | refine ⟨rfl, ?_⟩)) rfl rfl (Nat.zero_le _)) ⟨?_, ?_, ?_, ?_, ?_, ?_, ?_⟩ ?_ <;> simp only <;> first | omega | (rw [← h2]; clear h2; rw [drop_next h0 (by assumption)]; simp [famGo, dec_T, dec_F, dec_eq, *]; done))
    | (refine Rnd.norm (i + 1, e, d) (Le.cut 1 rfl (by repeat' (first | exact trivial | refine ⟨rfl, ?_⟩)) rfl rfl (Nat.zero_le _)) ⟨?_, ?_, ?_, ?_, ?_, ?_, ?_⟩ ?_ <;> simp only <;> first | omega | (rw [← h2]; clear h2; rw [drop_next h0 (by assumption)]; simp [famGo, dec_T, dec_F, dec_eq, *]; done))
    | (refine RQ.fin rfl rfl (congrArg bav ?_); rw [← h2]; clear h2; rw [drop_end (by assumption)]; rw [Bool.eq_iff_iff]; simp [famGo, dec_dec', *] <;> omega)
theorem itN_step (f : List Node) : ∀ (k : Nat) (x : Int), itN f (k + 1) x = upN f (itN f k x)
  | 0, _ => rfl
  | k + 1, x => itN_step f k (upN f x)
theorem pigeon : ∀ {n : Nat} (g : Nat → Int), (∀ j, j ≤ n → 1 ≤ g j ∧ g j ≤ n) → ∃ i j, i < j ∧ j ≤ n ∧ g i = g j := by
  intro n g h
  by_cases hd : ∃ i j, i < j ∧ j ≤ n ∧ g i = g j
  · exact hd
  · exfalso
    have hn : ((List.range (n + 1)).map g).Nodup := by
      rw [List.nodup_iff_pairwise_ne, List.pairwise_map]
      refine List.Pairwise.imp_of_mem ?_ (List.pairwise_lt_range)
      intro i j _ hj hij e
      rw [List.mem_range] at hj
      exact hd ⟨i, j, hij, by omega, e⟩
    have hm : ∀ (l m : List Int), l.Nodup → (∀ x ∈ l, x ∈ m) → l.length ≤ m.length := by
      intro l
      induction l with
      | nil => exact fun m _ _ => Nat.zero_le _
      | cons x r ih =>
        intro m hn hs
        have hx := hs x (by simp)
        rw [List.nodup_cons] at hn
        have := ih (m.erase x) hn.2 fun y hy => (List.mem_erase_of_ne (fun e : y = x => hn.1 (by rw [← e]; exact hy))).2 (hs y (by simp [hy]))
        have hl := List.length_erase_of_mem hx
        have : 0 < m.length := List.length_pos_of_mem hx
        simp only [List.length_cons]
        omega
    have := hm _ ((List.range n).map fun j : Nat => (j : Int) + 1) hn fun x hx => by
      obtain ⟨j, hj, rfl⟩ := List.mem_map.1 hx
      rw [List.mem_range] at hj
      have := h j (by omega)
      exact List.mem_map.2 ⟨(g j - 1).toNat, List.mem_range.2 (by omega), by omega⟩
    simp at this
    omega
/-- Where one is still within after so many steps, one never comes to an end. -/
theorem ring_bad {f : List Node} {h : Int} (hin : ∀ j : Nat, j ≤ f.length → inR f (itN f j h)) : ¬ Good f h := by
  obtain ⟨i, j, hij, hj, e⟩ := pigeon (fun j => itN f j h) hin
  have hr : Reach f (itN f i h) (itN f i h) := by
    refine ⟨j - i, by omega, ?_, fun q hq => ?_⟩
    · rw [← itN_add, show i + (j - i) = j by omega]
      exact e.symm
    · rw [← itN_add]
      exact hin _ (by omega)
  have hb := reach_loop hr
  intro hg
  apply hb
  by_cases h0 : i = 0
  · subst h0; exact hg
  · exact (reach_good ⟨i, by omega, rfl, fun q hq => hin q (by omega)⟩).1 hg
theorem rRing_c (f : List Node) (h : Int) (hl : f.length ≤ 1000000000) : PureC Tryz.prog 113 [fav f, iav h] (bav (dec (¬ Good f h))) := by
  have hm : (List.map Node.iv f).length = f.length := List.length_map _
  refine PureC.mk tabs Tryz.func113 27 [.tmp 4] rfl rfl rfl rfl rfl ?_; intro w0 X
  (repeat' (first | ((with_reducible show AL _ _ _ _ _); first | (refine AL.step tabs rfl ?_; try dsimp only [len, List.nil_append, List.cons_append]) | refine AL.nil ?_ | (refine AL.gsplitE rfl rfl rfl (fun hc => ?_) (fun hc => ?_) <;> (fail_if_success (exact absurd hc (by decide))) <;> (try simp only [hsx] at hc) <;> (try first | (exfalso; omega) | contradiction | (exfalso; simp [dec_eq] at hc; done))) | (refine AL.op rfl (OpOK.ari64 rfl rfl rfl rfl rfl (by omega) (by omega)) ?_) | (refine AL.op rfl (OpOK.index_map tabs rfl rfl rfl rfl rfl rfl rfl (fun _ => rfl) (by decide) (by omega) (by omega)) ?_) | (refine AL.op rfl (OpOK.eqs rfl rfl rfl rfl eqt45 rfl rfl) ?_) | (refine AL.op rfl (OpOK.eqs rfl rfl rfl rfl eqt68 rfl rfl) ?_) | (refine AL.op rfl (OpOK.eqs rfl rfl rfl rfl eqt146 rfl rfl) ?_) | (refine AL.op rfl (OpOK.eqs rfl rfl rfl rfl eqt151 rfl rfl) ?_)) | fail | refine AW.seq ?_ | refine AW.region ?_ | refine Then.norm ?_ | refine AW.skip ?_ | refine AW.block ?_ | refine InB.norm ?_ | refine AW.condT rfl ?_ | refine AW.condF rfl ?_ | (refine AW.cond rfl (fun hc => ?_) (fun hc => ?_) <;> (try simp only [hsx] at hc) <;> (try first | (exfalso; omega) | contradiction | (exfalso; simp [dec_eq] at hc; done))) | refine AW.ret ?_ | refine AW.exit ?_ | refine Then.ret ?_ | refine Then.exit ?_ | refine InB.ret ?_ | refine InB.here ?_ | refine InB.off rfl ?_ | refine Rnd.ret ?_ | refine Rnd.exit ?_))
  refine AW.loop (α := Int) (fun i => ⟨[(2, .ptr 0 1 0 0), (5, iav (itN f i.toNat h)), (6, iav i)], [⟨24, 1, [[.imm (.sl (f.map Node.iv))]]⟩]⟩) (fun i => 0 ≤ i ∧ i ≤ f.length + 1 ∧ ∀ j : Nat, (j : Int) < i → inR f (itN f j h)) (fun i => (f.length + 1 - i).toNat) 0 (Le.cut 1 rfl (by repeat' (first | exact trivial | refine ⟨rfl, ?_⟩)) rfl rfl (Nat.zero_le _)) ⟨by omega, by omega, fun j hj => by omega⟩ ?_
  intro i ⟨h0, h1, h2⟩
  (repeat' (first | ((with_reducible show AL _ _ _ _ _); first | (refine AL.step tabs rfl ?_; try dsimp only [len, List.nil_append, List.cons_append]) | refine AL.op rfl (OpOK.call rfl rfl rfl rfl (rNode_c f (itN f i.toNat h) hl) rfl) ?_ | refine AL.op rfl (OpOK.call rfl rfl rfl rfl (rAbove_c (nodeAt f (itN f i.toNat h))) rfl) ?_ | refine AL.nil ?_ | (refine AL.gsplitE rfl rfl rfl (fun hc => ?_) (fun hc => ?_) <;> (fail_if_success (exact absurd hc (by decide))) <;> (try simp only [hsx] at hc) <;> (try first | (exfalso; omega) | contradiction | (exfalso; simp [dec_eq] at hc; done))) | (refine AL.op rfl (OpOK.ari64 rfl rfl rfl rfl rfl (by omega) (by omega)) ?_) | (refine AL.op rfl (OpOK.index_map tabs rfl rfl rfl rfl rfl rfl rfl (fun _ => rfl) (by decide) (by omega) (by omega)) ?_) | (refine AL.op rfl (OpOK.eqs rfl rfl rfl rfl eqt45 rfl rfl) ?_) | (refine AL.op rfl (OpOK.eqs rfl rfl rfl rfl eqt68 rfl rfl) ?_) | (refine AL.op rfl (OpOK.eqs rfl rfl rfl rfl eqt146 rfl rfl) ?_) | (refine AL.op rfl (OpOK.eqs rfl rfl rfl rfl eqt151 rfl rfl) ?_)) | refine AW.seq ?_ | refine AW.region ?_ | refine Then.norm ?_ | refine AW.skip ?_ | refine AW.block ?_ | refine InB.norm ?_ | refine AW.condT rfl ?_ | refine AW.condF rfl ?_ | (refine AW.cond rfl (fun hc => ?_) (fun hc => ?_) <;> (try simp only [hsx] at hc) <;> (try first | (exfalso; omega) | contradiction | (exfalso; simp [dec_eq] at hc; done))) | refine AW.ret ?_ | refine AW.exit ?_ | refine Then.ret ?_ | refine Then.exit ?_ | refine InB.ret ?_ | refine InB.here ?_ | refine InB.off rfl ?_ | refine Rnd.ret ?_ | refine Rnd.exit ?_))
  · have hout : ¬ inR f (itN f i.toNat h) := by simpa [inB, inR] using hc
    rw [dec_neg (p := ¬ Good f h) (fun hg => hg ⟨_, hout⟩)]
    exact RQ.fin rfl rfl rfl
  · have hin : inR f (itN f i.toNat h) := by simpa [inB, inR] using hc
    have e : itN f (i + 1).toNat h = aboveOf (nodeAt f (itN f i.toNat h)) := by
      rw [show (i + 1).toNat = i.toNat + 1 by omega, itN_step]
      unfold upN nodeAt
      rw [if_pos (show 1 ≤ itN f i.toNat h ∧ itN f i.toNat h ≤ (f.length : Int) from hin)]
    refine Rnd.norm (i + 1) (Le.cut 1 rfl ⟨rfl, by rw [e]; rfl, rfl, trivial⟩ rfl rfl (Nat.zero_le _)) ⟨by omega, by omega, fun j hj => ?_⟩ (by omega)
    by_cases h3 : (j : Int) < i
    · exact h2 j h3
    · rw [show j = i.toNat by omega]; exact hin
  · rw [dec_pos (ring_bad fun j hj => h2 j (by omega))]
    exact RQ.fin rfl rfl rfl
end Go.Proofs.YteijifoobaoclaaGreat.A
namespace Go.Proofs.YteijifoobaoclaaGreat.A
set_option linter.unusedVariables false
set_option linter.unusedSimpArgs false
set_option maxRecDepth 100000
set_option maxHeartbeats 4000000
def okKid (f : List Node) (h : Int) (n : Node) (k : Int) : Prop := inB f k = true ∧ (nodeAt f k).parent = h ∧ (cntB n.kids k : Int) = 1 ∧ (nodeAt f k).doc = n.doc
def rLinksP (f : List Node) (h : Int) (n : Node) : Prop := (∀ k ∈ n.kids, okKid f h n k) ∧ l1 f h n ∧ l2 f h n ∧ l3 f h n ∧ l4 f h n ∧ famB f n = true
theorem rLinks_c (f : List Node) (h : Int) (hl : f.length ≤ 1000000000) (hk : ∀ h, (nodeAt f h).kids.length ≤ 1000000000) (hk' : (atI f (h - 1)).kids.length ≤ 1000000000) (h1 : 1 ≤ h) (h2 : h ≤ f.length) : PureC Tryz.prog 112 [fav f, iav h] (bav (dec (rLinksP f h (atI f (h - 1))))) := by
  obtain ⟨n, hn⟩ : ∃ n, n = atI f (h - 1) := ⟨_, rfl⟩
  have hfam : PureC Tryz.prog 142 [fav f, kav n.kind, .imm (.sl (n.kids.map i64))] (bav (famB f n)) := rKids_c f n.kind n.kids hl (by rw [hn]; exact hk')
  rw [← hn] at hk' ⊢
  refine PureC.mk tabs Tryz.func112 152 [.tmp 4] rfl rfl rfl rfl rfl ?_; intro w0 X
  (repeat' (first | ((with_reducible show AL _ _ _ _ _); first | (refine AL.step tabs rfl ?_; try dsimp only [len, List.nil_append, List.cons_append]) | refine AL.nil ?_ | (refine AL.gsplitE rfl rfl rfl (fun hc => ?_) (fun hc => ?_) <;> (fail_if_success (exact absurd hc (by decide))) <;> (try simp only [hsx] at hc) <;> (try first | (exfalso; omega) | contradiction | (exfalso; simp [dec_eq] at hc; done))) | (refine AL.op rfl (OpOK.ari64 rfl rfl rfl rfl rfl (by omega) (by omega)) ?_) | (refine AL.op rfl (OpOK.index_map tabs rfl rfl rfl rfl rfl rfl rfl (fun _ => rfl) (by decide) (by omega) (by omega)) ?_) | (refine AL.op rfl (OpOK.eqs rfl rfl rfl rfl eqt45 rfl rfl) ?_) | (refine AL.op rfl (OpOK.eqs rfl rfl rfl rfl eqt68 rfl rfl) ?_) | (refine AL.op rfl (OpOK.eqs rfl rfl rfl rfl eqt146 rfl rfl) ?_) | (refine AL.op rfl (OpOK.eqs rfl rfl rfl rfl eqt151 rfl rfl) ?_)) | fail | refine AW.seq ?_ | refine AW.region ?_ | refine Then.norm ?_ | refine AW.skip ?_ | refine AW.block ?_ | refine InB.norm ?_ | refine AW.condT rfl ?_ | refine AW.condF rfl ?_ | (refine AW.cond rfl (fun hc => ?_) (fun hc => ?_) <;> (try simp only [hsx] at hc) <;> (try first | (exfalso; omega) | contradiction | (exfalso; simp [dec_eq] at hc; done))) | refine AW.ret ?_ | refine AW.exit ?_ | refine Then.ret ?_ | refine Then.exit ?_ | refine InB.ret ?_ | refine InB.here ?_ | refine InB.off rfl ?_ | refine Rnd.ret ?_ | refine Rnd.exit ?_))
  rw [← hn]
  refine AW.loop (α := Int) (fun i => ⟨[(1, iav h), (2, .ptr 0 1 0 0), (5, .ptr 1 1 0 0), (23, .imm (.sl (n.kids.map i64))), (24, iav (n.kids.map i64).length), (25, iav i)], [⟨24, 1, [[.imm (.sl (f.map Node.iv))]]⟩, ⟨52, 16, [n.iv.map .imm]⟩]⟩) (fun i => 0 ≤ i ∧ i ≤ n.kids.length ∧ ∀ k ∈ n.kids.take i.toNat, okKid f h n k) (fun i => (n.kids.length - i).toNat) 0 (Le.cut 2 rfl (by repeat' (first | exact trivial | refine ⟨rfl, ?_⟩)) rfl rfl (Nat.zero_le _)) ⟨by omega, by omega, fun k hk => by simp at hk⟩ ?_
  intro i ⟨i0, i1, i2⟩
  by_cases hi : i < n.kids.length
  · (repeat' (first | ((with_reducible show AL _ _ _ _ _); first | (refine AL.step tabs rfl ?_; try dsimp only [len, List.nil_append, List.cons_append]) | refine AL.op rfl (OpOK.call rfl rfl rfl rfl (rNode_c f (atI n.kids i) hl) rfl) ?_ | refine AL.op rfl (OpOK.call rfl rfl rfl rfl (rCount_c n.kids (atI n.kids i) hk') rfl) ?_ | refine AL.nil ?_ | (refine AL.gsplitE rfl rfl rfl (fun hc => ?_) (fun hc => ?_) <;> (fail_if_success (exact absurd hc (by decide))) <;> (try simp only [hsx] at hc) <;> (try first | (exfalso; omega) | contradiction | (exfalso; simp [dec_eq] at hc; done))) | (refine AL.op rfl (OpOK.ari64 rfl rfl rfl rfl rfl (by omega) (by omega)) ?_) | (refine AL.op rfl (OpOK.index_map tabs rfl rfl rfl rfl rfl rfl rfl (fun _ => rfl) (by decide) (by omega) (by omega)) ?_) | (refine AL.op rfl (OpOK.eqs rfl rfl rfl rfl eqt45 rfl rfl) ?_) | (refine AL.op rfl (OpOK.eqs rfl rfl rfl rfl eqt68 rfl rfl) ?_) | (refine AL.op rfl (OpOK.eqs rfl rfl rfl rfl eqt146 rfl rfl) ?_) | (refine AL.op rfl (OpOK.eqs rfl rfl rfl rfl eqt151 rfl rfl) ?_)) | refine AW.seq ?_ | refine AW.region ?_ | refine Then.norm ?_ | refine AW.skip ?_ | refine AW.block ?_ | refine InB.norm ?_ | refine AW.condT rfl ?_ | refine AW.condF rfl ?_ | (refine AW.cond rfl (fun hc => ?_) (fun hc => ?_) <;> (try simp only [hsx] at hc) <;> (try first | (exfalso; omega) | contradiction | (exfalso; simp [dec_eq] at hc; done))) | refine AW.ret ?_ | refine AW.exit ?_ | refine Then.ret ?_ | refine Then.exit ?_ | refine InB.ret ?_ | refine InB.here ?_ | refine InB.off rfl ?_ | refine Rnd.ret ?_ | refine Rnd.exit ?_))
    all_goals first
      | (rw [dec_neg (p := rLinksP f h n) (fun hr => by
          obtain ⟨a1, a2, a3, a4⟩ := hr.1 (atI n.kids i) (atI_mem i0 hi)
          first | exact hc a2 | exact hc a3 | exact hc a4 | (rw [hc] at a1; cases a1))]
         exact RQ.fin rfl rfl rfl)
      | (refine Rnd.norm (i + 1) (Le.cut 2 rfl (by repeat' (first | exact trivial | refine ⟨rfl, ?_⟩)) rfl rfl (Nat.zero_le _)) ⟨by omega, by omega, fun k hk2 => ?_⟩ (by omega)
         rw [take_next i0 hi] at hk2
         rcases List.mem_append.1 hk2 with h3 | h3
         · exact i2 k h3
         · rw [List.mem_singleton] at h3
           subst h3
           exact ⟨by assumption, by assumption, by assumption, by assumption⟩)
  · have hall : ∀ k ∈ n.kids, okKid f h n k := by rw [take_end (by omega)] at i2; exact i2
    (repeat' (first | ((with_reducible show AL _ _ _ _ _); first | (refine AL.step tabs rfl ?_; try dsimp only [len, List.nil_append, List.cons_append]) | refine AL.op rfl (OpOK.call rfl rfl rfl rfl (rNode_c f n.parent hl) rfl) ?_ | refine AL.op rfl (OpOK.call rfl rfl rfl rfl (rNode_c f n.shadow hl) rfl) ?_ | refine AL.op rfl (OpOK.call rfl rfl rfl rfl (rNode_c f n.host hl) rfl) ?_ | refine AL.op rfl (OpOK.call rfl rfl rfl rfl (rKind_c f n.doc hl) rfl) ?_ | refine AL.op rfl (OpOK.call rfl rfl rfl rfl (rCount_c (nodeAt f n.parent).kids h (hk _)) rfl) ?_ | refine AL.op rfl (OpOK.call rfl rfl rfl rfl hfam rfl) ?_ | refine AL.nil ?_ | (refine AL.gsplitE rfl rfl rfl (fun hc => ?_) (fun hc => ?_) <;> (fail_if_success (exact absurd hc (by decide))) <;> (try simp only [hsx] at hc) <;> (try first | (exfalso; omega) | contradiction | (exfalso; simp [dec_eq] at hc; done))) | (refine AL.op rfl (OpOK.ari64 rfl rfl rfl rfl rfl (by omega) (by omega)) ?_) | (refine AL.op rfl (OpOK.index_map tabs rfl rfl rfl rfl rfl rfl rfl (fun _ => rfl) (by decide) (by omega) (by omega)) ?_) | (refine AL.op rfl (OpOK.eqs rfl rfl rfl rfl eqt45 rfl rfl) ?_) | (refine AL.op rfl (OpOK.eqs rfl rfl rfl rfl eqt68 rfl rfl) ?_) | (refine AL.op rfl (OpOK.eqs rfl rfl rfl rfl eqt146 rfl rfl) ?_) | (refine AL.op rfl (OpOK.eqs rfl rfl rfl rfl eqt151 rfl rfl) ?_)) | refine AW.meet (t := 60) (l1 f h n) ⟨[(1, iav h), (2, .ptr 0 1 0 0), (5, .ptr 1 1 0 0)], [⟨24, 1, [[.imm (.sl (f.map Node.iv))]]⟩, ⟨52, 16, [n.iv.map .imm]⟩]⟩ ?_ (fun ml1 => ?_) | refine AW.meet (t := 92) (l2 f h n) ⟨[(1, iav h), (2, .ptr 0 1 0 0), (5, .ptr 1 1 0 0)], [⟨24, 1, [[.imm (.sl (f.map Node.iv))]]⟩, ⟨52, 16, [n.iv.map .imm]⟩]⟩ ?_ (fun ml2 => ?_) | refine AW.meet (t := 95) (l3 f h n) ⟨[(1, iav h), (2, .ptr 0 1 0 0), (5, .ptr 1 1 0 0)], [⟨24, 1, [[.imm (.sl (f.map Node.iv))]]⟩, ⟨52, 16, [n.iv.map .imm]⟩]⟩ ?_ (fun ml3 => ?_) | refine AW.meet (t := 118) (l4 f h n) ⟨[(1, iav h), (2, .ptr 0 1 0 0), (5, .ptr 1 1 0 0)], [⟨24, 1, [[.imm (.sl (f.map Node.iv))]]⟩, ⟨52, 16, [n.iv.map .imm]⟩]⟩ ?_ (fun ml4 => ?_) | refine AW.seq ?_ | refine AW.region ?_ | refine Then.norm ?_ | refine AW.skip ?_ | refine AW.block ?_ | refine InB.norm ?_ | refine AW.condT rfl ?_ | refine AW.condF rfl ?_ | (refine AW.cond rfl (fun hc => ?_) (fun hc => ?_) <;> (try simp only [hsx] at hc) <;> (try first | (exfalso; omega) | contradiction | (exfalso; simp [dec_eq] at hc; done))) | refine AW.ret ?_ | refine AW.exit ?_ | refine Then.ret ?_ | refine Then.exit ?_ | refine InB.ret ?_ | refine InB.here ?_ | refine InB.off rfl ?_ | refine Rnd.ret ?_ | refine Rnd.exit ?_))
    all_goals try (refine Meet.of ?_ (Le.cut 2 rfl ⟨rfl, rfl, rfl, trivial⟩ rfl rfl (Nat.zero_le _)); simp only [l1, l2, l3, l4]; grind)
    all_goals try (refine RQ.fin rfl rfl (congrArg bav ?_); simp only [rLinksP, ml1, ml2, ml3, ml4, eq_true hall, true_and, dec_bt]; done)
    all_goals (refine RQ.fin rfl rfl (congrArg bav ?_); rw [Bool.eq_iff_iff]; simp only [rLinksP, l1, l2, l3, l4, dec_true, Bool.not_eq_true', dec_false]; grind)
end Go.Proofs.YteijifoobaoclaaGreat.A
