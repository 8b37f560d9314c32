/- The law CloneEquals of package canopylaw10 is true for every input whose arguments hold together at most 1048576 values and letters: the statement 'CloneEqualsUptoSaid'. Conditions: that bound alone. -/
import Derived.Test.YteijifoobaoclaaGreatFrD
import Derived.Test.YteijifoobaoclaaGreatGrpB
import Derived.Test.YteijifoobaoclaaGreatFnE
import Derived.Test.YteijifoobaoclaaGreatFnH
import Derived.Test.YteijifoobaoclaaGreatGrpA
import Derived.Test.YteijifoobaoclaaGreatFnV
import Derived.Test.YteijifoobaoclaaGreatRows
import Derived.ChangeArms
import Derived.WideShapes
import Derived.WalkKit
import Derived.ProofKit
import Derived.OpenShut
import Derived.ShutString
import Derived.ChangeOld
import Derived.Below
import Derived.JoinedCond
namespace Go.Proofs.YteijifoobaoclaaGreat.A
set_option linter.unusedVariables false
set_option linter.unusedSimpArgs false
set_option maxRecDepth 100000
set_option maxHeartbeats 4000000
theorem rNamed_eq (n : Name) : rNamedP n ↔ namedB n = true := by
  unfold rNamedP namedB shortB
  simp only [Bool.and_eq_true, Bool.or_eq_true, Bool.not_eq_true', dec_false, dec_true, List.all_cons, List.all_nil, Bool.and_true, decide_eq_true_eq]
  grind
theorem findGo_iff (n : Name) : ∀ (l : List Attr) (i : Int), 0 ≤ i → (0 ≤ findGo n l i ↔ ∃ y ∈ l, keyP y n)
  | [], i, h => by
    rw [findGo]
    simp
  | y :: r, i, h => by
    rw [findGo]
    by_cases hk : keyP y n
    · rw [if_pos (by rw [dec_true]; exact hk)]
      exact ⟨fun _ => ⟨y, by simp, hk⟩, fun _ => h⟩
    · rw [if_neg (by rw [dec_true]; exact hk), findGo_iff n r (i + 1) (by omega)]
      constructor
      · rintro ⟨z, hz, h2⟩
        exact ⟨z, by simp [hz], h2⟩
      · rintro ⟨z, hz, h2⟩
        rcases List.mem_cons.1 hz with rfl | hz
        · exact absurd h2 hk
        · exact ⟨z, hz, h2⟩
theorem keyP_key (y : Attr) (n : Name) : keyP y n ↔ key y.name = key n := by
  unfold keyP key
  simp only [Prod.mk.injEq]
theorem rAttrGo_eq : ∀ (l seen : List Attr), rAttrGo seen l = attrsGo (seen.map fun a => key a.name) l
  | [], _ => rfl
  | a :: r, seen => by
    rw [rAttrGo, attrsGo, rAttrGo_eq r (seen ++ [a])]
    have h1 : dec (rNamedP a.name) = namedB a.name := by rw [Bool.eq_iff_iff, dec_true]; exact rNamed_eq _
    rw [h1]
    have h2 : (0 ≤ findGo a.name seen 0) ↔ dec (key a.name ∈ seen.map fun a => key a.name) = true := by
      rw [findGo_iff a.name seen 0 (by omega), dec_true, List.mem_map]
      constructor
      · rintro ⟨y, hy, h⟩
        exact ⟨y, hy, (keyP_key _ _).1 h⟩
      · rintro ⟨y, hy, h⟩
        exact ⟨y, hy, (keyP_key _ _).2 h⟩
    have h4 : (4096 < a.value.size) = (4096 < (a.value.size : Int)) := by apply propext; omega
    by_cases h : 0 ≤ findGo a.name seen 0
    · rw [if_pos h, if_pos (h2.1 h)]
    · rw [if_neg h, if_neg (fun h3 => h (h2.2 h3))]
      simp
theorem rAttrB_eq (l : List Attr) : rAttrB l = attrsB l := by
  unfold rAttrB attrsB
  rw [rAttrGo_eq]
  rfl
theorem rMade_eq (n : Node) : rMadeP n ↔ madeP n := by
  have ha := rAttrB_eq n.attrs
  have hn := rNamed_eq n.name
  unfold rMadeP madeP p32 p66 p105 p126 p136 p148 m11 m27 m50 m77 m100 m200 knownP
  rw [ha]
  simp only [hasD, hasK, shortB, List.all_cons, List.all_nil, Bool.and_true, Bool.and_eq_true, decide_eq_true_eq]
  by_cases k1 : n.kind = 1
  · simp only [traitsOf, namingB, k1]
    simp [dec_true, shortB]
    grind
  by_cases k3 : n.kind = 3
  · simp only [traitsOf, namingB, k3]
    simp [dec_true, shortB]
    grind
  by_cases k4 : n.kind = 4
  · simp only [traitsOf, namingB, k4]
    simp [dec_true, shortB]
    grind
  by_cases k7 : n.kind = 7
  · simp only [traitsOf, namingB, k7]
    simp [dec_true, shortB]
    grind
  by_cases k8 : n.kind = 8
  · simp only [traitsOf, namingB, k8]
    simp [dec_true, shortB]
    grind
  by_cases k9 : n.kind = 9
  · simp only [traitsOf, namingB, k9]
    simp [dec_true, shortB]
    grind
  by_cases k10 : n.kind = 10
  · simp only [traitsOf, namingB, k10]
    simp [dec_true, shortB]
    grind
  by_cases k11 : n.kind = 11
  · simp only [traitsOf, namingB, k11]
    simp [dec_true, shortB]
    grind
  by_cases k12 : n.kind = 12
  · simp only [traitsOf, namingB, k12]
    simp [dec_true, shortB]
    grind
  simp [traitsOf, k1, k3, k4, k7, k8, k9, k10, k11, k12]
theorem cnt_nodup : ∀ (l : List Int), (∀ k ∈ l, (cntB l k : Int) = 1) ↔ l.Nodup
  | [] => by simp
  | x :: r => by
    have ih := cnt_nodup r
    have hx : ∀ k, cntB (x :: r) k = cntB r k + if x = k then 1 else 0 := fun k => by
      unfold cntB
      rw [List.countP_cons]
      simp
    have hz : ∀ k, cntB r k = 0 ↔ k ∉ r := fun k => by
      unfold cntB
      rw [List.countP_eq_zero]
      simp
      constructor
      · intro h hk; exact h k hk rfl
      · intro h a ha e; subst e; exact h ha
    rw [List.nodup_cons, ← ih]
    constructor
    · intro h
      have h0 := h x (by simp)
      rw [hx, if_pos rfl] at h0
      have hn := (hz x).1 (by omega)
      refine ⟨hn, fun k hk => ?_⟩
      have h1 := h k (by simp [hk])
      rw [hx, if_neg (fun e : x = k => hn (by rw [e]; exact hk))] at h1
      omega
    · rintro ⟨hn, h⟩ k hk
      rw [hx]
      rcases List.mem_cons.1 hk with rfl | hk
      · rw [if_pos rfl, (hz k).2 hn]; rfl
      · rw [if_neg (fun e : x = k => hn (by rw [e]; exact hk))]
        have := h k hk
        omega
theorem kidsGo_iff {f : List Node} {h doc : Int} : ∀ (l seen : List Int), kidsGo f h doc seen l = true ↔ (∀ k ∈ l, inB f k = true ∧ (nodeAt f k).parent = h ∧ (nodeAt f k).doc = doc ∧ k ∉ seen) ∧ l.Nodup
  | [], seen => by simp [kidsGo]
  | x :: r, seen => by
    rw [kidsGo, List.nodup_cons]
    by_cases h1 : inB f x = false
    · rw [if_pos h1]
      constructor
      · intro h; cases h
      · intro h2
        have := (h2.1 x (by simp)).1
        rw [h1] at this; cases this
    rw [if_neg h1]
    by_cases h2 : x ∈ seen
    · rw [if_pos (by rw [dec_true]; exact h2)]
      constructor
      · intro h; cases h
      · intro h3
        exact absurd h2 (h3.1 x (by simp)).2.2.2
    rw [if_neg (by rw [dec_true]; exact h2)]
    by_cases h3 : (nodeAt f x).parent = h
    · by_cases h4 : (nodeAt f x).doc = doc
      · rw [if_neg (by rw [dec_false]; exact fun h => h h3), if_neg (by rw [dec_false]; exact fun h => h h4), kidsGo_iff r (seen ++ [x])]
        constructor
        · rintro ⟨a, b⟩
          refine ⟨fun k hk => ?_, fun hx => (a x hx).2.2.2 (by simp), b⟩
          rcases List.mem_cons.1 hk with rfl | hk
          · exact ⟨by simpa using h1, h3, h4, h2⟩
          · obtain ⟨c1, c2, c3, c4⟩ := a k hk
            exact ⟨c1, c2, c3, fun h => c4 (by simp [h])⟩
        · rintro ⟨a, b, c⟩
          refine ⟨fun k hk => ?_, c⟩
          obtain ⟨c1, c2, c3, c4⟩ := a k (by simp [hk])
          refine ⟨c1, c2, c3, fun h => ?_⟩
          rcases List.mem_append.1 h with h | h
          · exact c4 h
          · rw [List.mem_singleton] at h
            subst h
            exact b hk
      · rw [if_neg (by rw [dec_false]; exact fun h => h h3), if_pos (by rw [dec_false]; exact h4)]
        constructor
        · intro h; cases h
        · intro h5
          exact absurd (h5.1 x (by simp)).2.2.1 h4
    · rw [if_pos (by rw [dec_false]; exact h3)]
      constructor
      · intro h; cases h
      · intro h5
        exact absurd (h5.1 x (by simp)).2.1 h3
theorem rLinks_eq (f : List Node) (h : Int) (n : Node) : rLinksP f h n ↔ linksP f h n := by
  unfold rLinksP linksP kidsB
  rw [Bool.and_eq_true, kidsGo_iff, ← cnt_nodup]
  unfold okKid
  constructor
  · rintro ⟨a, b, c, d, e, g⟩
    exact ⟨b, c, d, e, ⟨fun k hk => ⟨(a k hk).1, (a k hk).2.1, (a k hk).2.2.2, by simp⟩, fun k hk => (a k hk).2.2.1⟩, g⟩
  · rintro ⟨b, c, d, e, ⟨a, a2⟩, g⟩
    exact ⟨fun k hk => ⟨(a k hk).1, (a k hk).2.1, a2 k hk, (a k hk).2.2.1⟩, b, c, d, e, g⟩
end Go.Proofs.YteijifoobaoclaaGreat.A
namespace Go.Proofs.YteijifoobaoclaaGreat.A
set_option linter.unusedVariables false
set_option linter.unusedSimpArgs false
set_option maxRecDepth 100000
set_option maxHeartbeats 4000000
theorem dec_congr {p q : Prop} (h : p ↔ q) : dec p = dec q := by rw [propext h]
theorem rMade2_c (n : Node) (hn : FitN n) : PureC Tryz.prog 111 [n.av] (bav (dec (madeP n))) := by
  rw [← dec_congr (rMade_eq n)]
  exact rMade_c n hn.data hn.attrs hn.kids
theorem rLinks2_c (f : List Node) (i : Int) (hf : Fit f) (h0 : 0 ≤ i) (h1 : i < f.length) : PureC Tryz.prog 112 [fav f, iav (i + 1)] (bav (dec (linksP f (i + 1) (atI f i)))) := by
  have := rLinks_c f (i + 1) hf.len (fun h => (hf.at h).kids) (by rw [show i + 1 - 1 = i by omega]; exact (hf.atI i h0 h1).kids) (by omega) (by omega)
  rw [dec_congr (rLinks_eq f (i + 1) _), show i + 1 - 1 = i by omega] at this
  exact this
theorem rCheck_c (f : List Node) (hf : Fit f) : PureC Tryz.prog 64 [fav f] (.tup [iav (checkR f).1, iav (checkR f).2]) := by
  have hl := hf.len
  have hm : (List.map Node.iv f).length = f.length := List.length_map _
  refine PureC.mk tabs Tryz.func64 37 [.tmp 2, .tmp 3] rfl rfl rfl rfl rfl ?_; intro w0 X
  (repeat' (first | ((with_reducible show AL _ _ _ _ _); first | (refine AL.step tabs rfl ?_; try dsimp only [len, List.nil_append, List.cons_append]) | refine AL.nil ?_ | (refine AL.gsplitE rfl rfl rfl (fun hc => ?_) (fun hc => ?_) <;> (fail_if_success (exact absurd hc (by decide))) <;> (try simp only [hsx] at hc) <;> (try first | (exfalso; omega) | contradiction | (exfalso; simp [dec_eq] at hc; done))) | (refine AL.op rfl (OpOK.ari64 rfl rfl rfl rfl rfl (by omega) (by omega)) ?_) | (refine AL.op rfl (OpOK.index_map tabs rfl rfl rfl rfl rfl rfl rfl (fun _ => rfl) (by decide) (by omega) (by omega)) ?_) | (refine AL.op rfl (OpOK.eqs rfl rfl rfl rfl eqt45 rfl rfl) ?_) | (refine AL.op rfl (OpOK.eqs rfl rfl rfl rfl eqt68 rfl rfl) ?_) | (refine AL.op rfl (OpOK.eqs rfl rfl rfl rfl eqt146 rfl rfl) ?_) | (refine AL.op rfl (OpOK.eqs rfl rfl rfl rfl eqt151 rfl rfl) ?_)) | fail | refine AW.seq ?_ | refine AW.region ?_ | refine Then.norm ?_ | refine AW.skip ?_ | refine AW.block ?_ | refine InB.norm ?_ | refine AW.condT rfl ?_ | refine AW.condF rfl ?_ | (refine AW.cond rfl (fun hc => ?_) (fun hc => ?_) <;> (try simp only [hsx] at hc) <;> (try first | (exfalso; omega) | contradiction | (exfalso; simp [dec_eq] at hc; done))) | refine AW.ret ?_ | refine AW.exit ?_ | refine Then.ret ?_ | refine Then.exit ?_ | refine InB.ret ?_ | refine InB.here ?_ | refine InB.off rfl ?_ | refine Rnd.ret ?_ | refine Rnd.exit ?_))
  · rw [show checkR f = (5, 0) by unfold checkR; rw [if_pos (by omega)]]
    exact RQ.fin rfl rfl rfl
  rw [show checkR f = chkGo f f 0 by unfold checkR; rw [if_neg (by omega)]]
  refine AW.loop (α := Int) (fun i => ⟨[(1, .ptr 0 1 0 0), (11, .imm (.sl (f.map Node.iv))), (12, iav (List.map Node.iv f).length), (13, iav i)], [⟨24, 1, [[.imm (.sl (f.map Node.iv))]]⟩]⟩) (fun i => 0 ≤ i ∧ i ≤ f.length ∧ chkGo f (f.drop i.toNat) i = chkGo f f 0) (fun i => (f.length - i).toNat) 0 (Le.cut 1 rfl (by repeat' (first | exact trivial | refine ⟨rfl, ?_⟩)) rfl rfl (Nat.zero_le _)) ⟨by omega, by omega, rfl⟩ ?_
  intro i ⟨h0, h1, h2⟩
  (repeat' (first | ((with_reducible show AL _ _ _ _ _); first | (refine AL.step tabs rfl ?_; try dsimp only [len, List.nil_append, List.cons_append]) | refine AL.op rfl (OpOK.call rfl rfl rfl rfl (rMade2_c (atI f i) (hf.atI i (by omega) (by omega))) rfl) ?_ | refine AL.op rfl (OpOK.call rfl rfl rfl rfl (rLinks2_c f i hf (by omega) (by omega)) rfl) ?_ | refine AL.op rfl (OpOK.call rfl rfl rfl rfl (rRing_c f (i + 1) hl) rfl) ?_ | refine AL.nil ?_ | (refine AL.gsplitE rfl rfl rfl (fun hc => ?_) (fun hc => ?_) <;> (fail_if_success (exact absurd hc (by decide))) <;> (try simp only [hsx] at hc) <;> (try first | (exfalso; omega) | contradiction | (exfalso; simp [dec_eq] at hc; done))) | (refine AL.op rfl (OpOK.ari64 rfl rfl rfl rfl rfl (by omega) (by omega)) ?_) | (refine AL.op rfl (OpOK.index_map tabs rfl rfl rfl rfl rfl rfl rfl (fun _ => rfl) (by decide) (by omega) (by omega)) ?_) | (refine AL.op rfl (OpOK.eqs rfl rfl rfl rfl eqt45 rfl rfl) ?_) | (refine AL.op rfl (OpOK.eqs rfl rfl rfl rfl eqt68 rfl rfl) ?_) | (refine AL.op rfl (OpOK.eqs rfl rfl rfl rfl eqt146 rfl rfl) ?_) | (refine AL.op rfl (OpOK.eqs rfl rfl rfl rfl eqt151 rfl rfl) ?_)) | refine AW.seq ?_ | refine AW.region ?_ | refine Then.norm ?_ | refine AW.skip ?_ | refine AW.block ?_ | refine InB.norm ?_ | refine AW.condT rfl ?_ | refine AW.condF rfl ?_ | (refine AW.cond rfl (fun hc => ?_) (fun hc => ?_) <;> (try simp only [hsx] at hc) <;> (try first | (exfalso; omega) | contradiction | (exfalso; simp [dec_eq] at hc; done))) | refine AW.ret ?_ | refine AW.exit ?_ | refine Then.ret ?_ | refine Then.exit ?_ | refine InB.ret ?_ | refine InB.here ?_ | refine InB.off rfl ?_ | refine Rnd.ret ?_ | refine Rnd.exit ?_))
  all_goals first
    | (rw [← h2, drop_end hc]; exact RQ.fin rfl rfl rfl)
    | (have hn : ¬ okP f i (atI f i) := by
         intro hk
         obtain ⟨a1, a2, a3⟩ := hk
         first | exact hc a1 | exact hc a2 | exact hc a3
       rw [← h2, drop_next h0 (by assumption), chkGo, if_neg (by rw [dec_true]; exact hn)]
       exact RQ.fin rfl rfl rfl)
    | (refine Rnd.norm (i + 1) (Le.cut 1 rfl (by repeat' (first | exact trivial | refine ⟨rfl, ?_⟩)) rfl rfl (Nat.zero_le _)) ⟨by omega, by omega, ?_⟩ (by omega)
       rw [← h2, drop_next h0 (by assumption), chkGo, if_pos (by rw [dec_true]; exact ⟨by assumption, by assumption, Classical.byContradiction hc⟩)])
theorem rRight_c (f : List Node) (hf : Fit f) : PureC Tryz.prog 47 [fav f] (bav (dec (rightP f))) := by
  rw [show rightP f = ((checkR f).1 = 0) by rw [(checkR_zero f).2]]
  refine PureC.mk tabs Tryz.func47 12 [.tmp 2] rfl rfl rfl rfl rfl ?_; intro w0 X
  (repeat' (first | ((with_reducible show AL _ _ _ _ _); first | (refine AL.step tabs rfl ?_; try dsimp only [len, List.nil_append, List.cons_append]) | refine AL.op rfl (OpOK.call rfl rfl rfl rfl (rCheck_c f hf) rfl) ?_ | refine AL.nil ?_ | (refine AL.gsplitE rfl rfl rfl (fun hc => ?_) (fun hc => ?_) <;> (fail_if_success (exact absurd hc (by decide))) <;> (try simp only [hsx] at hc) <;> (try first | (exfalso; omega) | contradiction | (exfalso; simp [dec_eq] at hc; done))) | (refine AL.op rfl (OpOK.ari64 rfl rfl rfl rfl rfl (by omega) (by omega)) ?_) | (refine AL.op rfl (OpOK.index_map tabs rfl rfl rfl rfl rfl rfl rfl (fun _ => rfl) (by decide) (by omega) (by omega)) ?_) | (refine AL.op rfl (OpOK.eqs rfl rfl rfl rfl eqt45 rfl rfl) ?_) | (refine AL.op rfl (OpOK.eqs rfl rfl rfl rfl eqt68 rfl rfl) ?_) | (refine AL.op rfl (OpOK.eqs rfl rfl rfl rfl eqt146 rfl rfl) ?_) | (refine AL.op rfl (OpOK.eqs rfl rfl rfl rfl eqt151 rfl rfl) ?_)) | refine AW.seq ?_ | refine AW.region ?_ | refine Then.norm ?_ | refine AW.skip ?_ | refine AW.block ?_ | refine InB.norm ?_ | refine AW.condT rfl ?_ | refine AW.condF rfl ?_ | (refine AW.cond rfl (fun hc => ?_) (fun hc => ?_) <;> (try simp only [hsx] at hc) <;> (try first | (exfalso; omega) | contradiction | (exfalso; simp [dec_eq] at hc; done))) | refine AW.ret ?_ | refine AW.exit ?_ | refine Then.ret ?_ | refine Then.exit ?_ | refine InB.ret ?_ | refine InB.here ?_ | refine InB.off rfl ?_ | refine Rnd.ret ?_ | refine Rnd.exit ?_))
  all_goals exact RQ.fin rfl rfl rfl
theorem rOf_c (f : List Node) (h : Int) (hl : f.length ≤ 1000000000) (hh : inR f h) : PureC Tryz.prog 29 [fav f, iav h] (nodeAt f h).av := by
  have h1 := hh.1
  have h2 := hh.2
  unfold nodeAt
  rw [if_pos (show 1 ≤ h ∧ h ≤ (f.length : Int) from hh)]
  refine PureC.mk tabs Tryz.func29 11 [.cell 4 52] rfl rfl rfl rfl rfl ?_; intro w0 X
  (repeat' (first | ((with_reducible show AL _ _ _ _ _); first | (refine AL.step tabs rfl ?_; try dsimp only [len, List.nil_append, List.cons_append]) | refine AL.nil ?_ | (refine AL.gsplitE rfl rfl rfl (fun hc => ?_) (fun hc => ?_) <;> (fail_if_success (exact absurd hc (by decide))) <;> (try simp only [hsx] at hc) <;> (try first | (exfalso; omega) | contradiction | (exfalso; simp [dec_eq] at hc; done))) | (refine AL.op rfl (OpOK.ari64 rfl rfl rfl rfl rfl (by omega) (by omega)) ?_) | (refine AL.op rfl (OpOK.index_map tabs rfl rfl rfl rfl rfl rfl rfl (fun _ => rfl) (by decide) (by omega) (by omega)) ?_) | (refine AL.op rfl (OpOK.eqs rfl rfl rfl rfl eqt45 rfl rfl) ?_) | (refine AL.op rfl (OpOK.eqs rfl rfl rfl rfl eqt68 rfl rfl) ?_) | (refine AL.op rfl (OpOK.eqs rfl rfl rfl rfl eqt146 rfl rfl) ?_) | (refine AL.op rfl (OpOK.eqs rfl rfl rfl rfl eqt151 rfl rfl) ?_)) | refine AW.seq ?_ | refine AW.region ?_ | refine Then.norm ?_ | refine AW.skip ?_ | refine AW.block ?_ | refine InB.norm ?_ | refine AW.condT rfl ?_ | refine AW.condF rfl ?_ | (refine AW.cond rfl (fun hc => ?_) (fun hc => ?_) <;> (try simp only [hsx] at hc) <;> (try first | (exfalso; omega) | contradiction | (exfalso; simp [dec_eq] at hc; done))) | refine AW.ret ?_ | refine AW.exit ?_ | refine Then.ret ?_ | refine Then.exit ?_ | refine InB.ret ?_ | refine InB.here ?_ | refine InB.off rfl ?_ | refine Rnd.ret ?_ | refine Rnd.exit ?_))
  exact RQ.fin' rfl rfl rfl
theorem rFault_c (f : List Node) (l : List Int) (hf : Fit f) (hl : l.length ≤ 1000000000) : PureC Tryz.prog 27 [fav f, .imm (.sl (l.map i64))] (iav (faultR f l)) := by
  have hfl := hf.len
  have hr0 := rRight_c f hf
  by_cases hr : rightP f
  · rw [dec_pos hr] at hr0
    unfold faultR
    rw [if_pos (by rw [dec_true]; exact hr)]
    refine PureC.mk tabs Tryz.func27 30 [.tmp 4] rfl rfl rfl rfl rfl ?_; intro w0 X
    (repeat' (first | ((with_reducible show AL _ _ _ _ _); first | (refine AL.step tabs rfl ?_; try dsimp only [len, List.nil_append, List.cons_append]) | refine AL.op rfl (OpOK.call rfl rfl rfl rfl hr0 rfl) ?_ | refine AL.nil ?_ | (refine AL.gsplitE rfl rfl rfl (fun hc => ?_) (fun hc => ?_) <;> (fail_if_success (exact absurd hc (by decide))) <;> (try simp only [hsx] at hc) <;> (try first | (exfalso; omega) | contradiction | (exfalso; simp [dec_eq] at hc; done))) | (refine AL.op rfl (OpOK.ari64 rfl rfl rfl rfl rfl (by omega) (by omega)) ?_) | (refine AL.op rfl (OpOK.index_map tabs rfl rfl rfl rfl rfl rfl rfl (fun _ => rfl) (by decide) (by omega) (by omega)) ?_) | (refine AL.op rfl (OpOK.eqs rfl rfl rfl rfl eqt45 rfl rfl) ?_) | (refine AL.op rfl (OpOK.eqs rfl rfl rfl rfl eqt68 rfl rfl) ?_) | (refine AL.op rfl (OpOK.eqs rfl rfl rfl rfl eqt146 rfl rfl) ?_) | (refine AL.op rfl (OpOK.eqs rfl rfl rfl rfl eqt151 rfl rfl) ?_)) | ((with_reducible show DQ _ _ _ _ _ _); first | refine DQ.stepc (LS.val tabs rfl rfl rfl) rfl rfl rfl rfl rfl ?_ | refine DQ.stepc (LS.skip rfl rfl) rfl rfl rfl rfl rfl ?_ | refine DQ.nilM (by kernel_rfl) ?_ | refine DQ.stepc (LS.ari64 rfl rfl rfl rfl rfl rfl (by omega) (by omega)) rfl rfl rfl rfl rfl ?_ | refine DQ.stepc (LS.index_map tabs rfl rfl rfl rfl rfl rfl rfl rfl (fun _ => rfl) (by decide) (by omega) (by omega)) rfl rfl rfl rfl rfl ?_ | (refine DQ.gsplitE rfl rfl rfl (fun hc => ?_) (fun hc => ?_) <;> (fail_if_success (exact absurd hc (by decide))) <;> (try simp only [hsx] at hc) <;> (try first | (exfalso; omega) | contradiction | (exfalso; simp [dec_eq] at hc; done))) | refine DQ.stepc (LS.eqs rfl rfl rfl rfl rfl eqt45 rfl rfl) rfl rfl rfl rfl rfl ?_ | refine DQ.stepc (LS.eqs rfl rfl rfl rfl rfl eqt68 rfl rfl) rfl rfl rfl rfl rfl ?_ | refine DQ.stepc (LS.eqs rfl rfl rfl rfl rfl eqt146 rfl rfl) rfl rfl rfl rfl rfl ?_ | refine DQ.stepc (LS.eqs rfl rfl rfl rfl rfl eqt151 rfl rfl) rfl rfl rfl rfl rfl ?_) | refine AW.seq ?_ | refine AW.region ?_ | refine Then.norm ?_ | refine AW.skip ?_ | refine AW.block ?_ | refine InB.norm ?_ | refine AW.condT rfl ?_ | refine AW.condF rfl ?_ | (refine AW.cond rfl (fun hc => ?_) (fun hc => ?_) <;> (try simp only [hsx] at hc) <;> (try first | (exfalso; omega) | contradiction | (exfalso; simp [dec_eq] at hc; done))) | refine AW.ret ?_ | refine AW.exit ?_ | refine Then.ret ?_ | refine Then.exit ?_ | refine InB.ret ?_ | refine InB.here ?_ | refine InB.off rfl ?_ | refine Rnd.ret ?_ | refine Rnd.exit ?_ | refine AW.drawW mixed (by kernel_rfl) ?_))
    refine AW.loop (α := Int) (fun i => ⟨[(1, .imm (.sl (l.map i64))), (2, .ptr 0 1 0 0), (5, iav i)], [⟨24, 1, [[.imm (.sl (f.map Node.iv))]]⟩]⟩) (fun i => 0 ≤ i ∧ i ≤ l.length ∧ ((l.take i.toNat).all fun h => inB f h) = true) (fun i => (l.length - i).toNat) 0 (Le.cut 1 rfl (by repeat' (first | exact trivial | refine ⟨rfl, ?_⟩)) rfl rfl (Nat.zero_le _)) ⟨by omega, by omega, rfl⟩ ?_
    intro i ⟨h0, h1, h2⟩
    (repeat' (first | ((with_reducible show AL _ _ _ _ _); first | (refine AL.step tabs rfl ?_; try dsimp only [len, List.nil_append, List.cons_append]) | refine AL.nil ?_ | (refine AL.gsplitE rfl rfl rfl (fun hc => ?_) (fun hc => ?_) <;> (fail_if_success (exact absurd hc (by decide))) <;> (try simp only [hsx] at hc) <;> (try first | (exfalso; omega) | contradiction | (exfalso; simp [dec_eq] at hc; done))) | (refine AL.op rfl (OpOK.ari64 rfl rfl rfl rfl rfl (by omega) (by omega)) ?_) | (refine AL.op rfl (OpOK.index_map tabs rfl rfl rfl rfl rfl rfl rfl (fun _ => rfl) (by decide) (by omega) (by omega)) ?_) | (refine AL.op rfl (OpOK.eqs rfl rfl rfl rfl eqt45 rfl rfl) ?_) | (refine AL.op rfl (OpOK.eqs rfl rfl rfl rfl eqt68 rfl rfl) ?_) | (refine AL.op rfl (OpOK.eqs rfl rfl rfl rfl eqt146 rfl rfl) ?_) | (refine AL.op rfl (OpOK.eqs rfl rfl rfl rfl eqt151 rfl rfl) ?_)) | ((with_reducible show DQ _ _ _ _ _ _); first | refine DQ.stepc (LS.val tabs rfl rfl rfl) rfl rfl rfl rfl rfl ?_ | refine DQ.stepc (LS.skip rfl rfl) rfl rfl rfl rfl rfl ?_ | refine DQ.nilM (by kernel_rfl) ?_ | refine DQ.stepc (LS.ari64 rfl rfl rfl rfl rfl rfl (by omega) (by omega)) rfl rfl rfl rfl rfl ?_ | refine DQ.stepc (LS.index_map tabs rfl rfl rfl rfl rfl rfl rfl rfl (fun _ => rfl) (by decide) (by omega) (by omega)) rfl rfl rfl rfl rfl ?_ | (refine DQ.gsplitE rfl rfl rfl (fun hc => ?_) (fun hc => ?_) <;> (fail_if_success (exact absurd hc (by decide))) <;> (try simp only [hsx] at hc) <;> (try first | (exfalso; omega) | contradiction | (exfalso; simp [dec_eq] at hc; done))) | refine DQ.stepc (LS.eqs rfl rfl rfl rfl rfl eqt45 rfl rfl) rfl rfl rfl rfl rfl ?_ | refine DQ.stepc (LS.eqs rfl rfl rfl rfl rfl eqt68 rfl rfl) rfl rfl rfl rfl rfl ?_ | refine DQ.stepc (LS.eqs rfl rfl rfl rfl rfl eqt146 rfl rfl) rfl rfl rfl rfl rfl ?_ | refine DQ.stepc (LS.eqs rfl rfl rfl rfl rfl eqt151 rfl rfl) rfl rfl rfl rfl rfl ?_) | refine AW.seq ?_ | refine AW.region ?_ | refine Then.norm ?_ | refine AW.skip ?_ | refine AW.block ?_ | refine InB.norm ?_ | refine AW.condT rfl ?_ | refine AW.condF rfl ?_ | (refine AW.cond rfl (fun hc => ?_) (fun hc => ?_) <;> (try simp only [hsx] at hc) <;> (try first | (exfalso; omega) | contradiction | (exfalso; simp [dec_eq] at hc; done))) | refine AW.ret ?_ | refine AW.exit ?_ | refine Then.ret ?_ | refine Then.exit ?_ | refine InB.ret ?_ | refine InB.here ?_ | refine InB.off rfl ?_ | refine Rnd.ret ?_ | refine Rnd.exit ?_ | refine AW.drawW mixed (by kernel_rfl) ?_))
    all_goals first
      | (have hn : (l.all fun h => inB f h) = false := by
           rw [List.all_eq_false]
           exact ⟨_, atI_mem h0 (by assumption), by simp only [inB, decide_eq_true_eq]; omega⟩
         rw [hn]
         exact RQ.fin rfl rfl rfl)
      | (refine Rnd.norm (i + 1) (Le.cut 1 rfl (by repeat' (first | exact trivial | refine ⟨rfl, ?_⟩)) rfl rfl (Nat.zero_le _)) ⟨by omega, by omega, ?_⟩ (by omega)
         rw [take_next h0 (by assumption), List.all_append, h2]
         simp only [List.all_cons, List.all_nil, Bool.and_true, Bool.true_and, inB, decide_eq_true_eq]
         omega)
      | (rw [take_end hc] at h2; rw [h2]; exact RQ.fin rfl rfl rfl)
  · rw [dec_neg hr] at hr0
    unfold faultR
    rw [if_neg (by rw [dec_true]; exact hr)]
    refine PureC.mk tabs Tryz.func27 30 [.tmp 4] rfl rfl rfl rfl rfl ?_; intro w0 X
    (repeat' (first | ((with_reducible show AL _ _ _ _ _); first | (refine AL.step tabs rfl ?_; try dsimp only [len, List.nil_append, List.cons_append]) | refine AL.op rfl (OpOK.call rfl rfl rfl rfl hr0 rfl) ?_ | refine AL.nil ?_ | (refine AL.gsplitE rfl rfl rfl (fun hc => ?_) (fun hc => ?_) <;> (fail_if_success (exact absurd hc (by decide))) <;> (try simp only [hsx] at hc) <;> (try first | (exfalso; omega) | contradiction | (exfalso; simp [dec_eq] at hc; done))) | (refine AL.op rfl (OpOK.ari64 rfl rfl rfl rfl rfl (by omega) (by omega)) ?_) | (refine AL.op rfl (OpOK.index_map tabs rfl rfl rfl rfl rfl rfl rfl (fun _ => rfl) (by decide) (by omega) (by omega)) ?_) | (refine AL.op rfl (OpOK.eqs rfl rfl rfl rfl eqt45 rfl rfl) ?_) | (refine AL.op rfl (OpOK.eqs rfl rfl rfl rfl eqt68 rfl rfl) ?_) | (refine AL.op rfl (OpOK.eqs rfl rfl rfl rfl eqt146 rfl rfl) ?_) | (refine AL.op rfl (OpOK.eqs rfl rfl rfl rfl eqt151 rfl rfl) ?_)) | ((with_reducible show DQ _ _ _ _ _ _); first | refine DQ.stepc (LS.val tabs rfl rfl rfl) rfl rfl rfl rfl rfl ?_ | refine DQ.stepc (LS.skip rfl rfl) rfl rfl rfl rfl rfl ?_ | refine DQ.nilM (by kernel_rfl) ?_ | refine DQ.stepc (LS.ari64 rfl rfl rfl rfl rfl rfl (by omega) (by omega)) rfl rfl rfl rfl rfl ?_ | refine DQ.stepc (LS.index_map tabs rfl rfl rfl rfl rfl rfl rfl rfl (fun _ => rfl) (by decide) (by omega) (by omega)) rfl rfl rfl rfl rfl ?_ | (refine DQ.gsplitE rfl rfl rfl (fun hc => ?_) (fun hc => ?_) <;> (fail_if_success (exact absurd hc (by decide))) <;> (try simp only [hsx] at hc) <;> (try first | (exfalso; omega) | contradiction | (exfalso; simp [dec_eq] at hc; done))) | refine DQ.stepc (LS.eqs rfl rfl rfl rfl rfl eqt45 rfl rfl) rfl rfl rfl rfl rfl ?_ | refine DQ.stepc (LS.eqs rfl rfl rfl rfl rfl eqt68 rfl rfl) rfl rfl rfl rfl rfl ?_ | refine DQ.stepc (LS.eqs rfl rfl rfl rfl rfl eqt146 rfl rfl) rfl rfl rfl rfl rfl ?_ | refine DQ.stepc (LS.eqs rfl rfl rfl rfl rfl eqt151 rfl rfl) rfl rfl rfl rfl rfl ?_) | refine AW.seq ?_ | refine AW.region ?_ | refine Then.norm ?_ | refine AW.skip ?_ | refine AW.block ?_ | refine InB.norm ?_ | refine AW.condT rfl ?_ | refine AW.condF rfl ?_ | (refine AW.cond rfl (fun hc => ?_) (fun hc => ?_) <;> (try simp only [hsx] at hc) <;> (try first | (exfalso; omega) | contradiction | (exfalso; simp [dec_eq] at hc; done))) | refine AW.ret ?_ | refine AW.exit ?_ | refine Then.ret ?_ | refine Then.exit ?_ | refine InB.ret ?_ | refine InB.here ?_ | refine InB.off rfl ?_ | refine Rnd.ret ?_ | refine Rnd.exit ?_ | refine AW.drawW mixed (by kernel_rfl) ?_))
    exact RQ.fin rfl rfl rfl
end Go.Proofs.YteijifoobaoclaaGreat.A
namespace Go.Proofs.YteijifoobaoclaaGreat.A
set_option linter.unusedVariables false
set_option linter.unusedSimpArgs false
set_option maxRecDepth 100000
set_option maxHeartbeats 4000000
theorem findGo_at (n : Name) : ∀ (l : List Attr) (i : Int), 0 ≤ findGo n l i → 0 ≤ i → i ≤ findGo n l i ∧ findGo n l i < i + l.length ∧ keyP (atI l (findGo n l i - i)) n
  | [], i, h, _ => by
    rw [findGo] at h
    omega
  | y :: r, i, h, hi => by
    rw [findGo] at h ⊢
    by_cases hk : keyP y n
    · have hp : dec (keyP y n) = true := by rw [dec_true]; exact hk
      rw [if_pos hp]
      refine ⟨by omega, by simp; omega, ?_⟩
      rw [Int.sub_self]
      exact hk
    · have hp : ¬ dec (keyP y n) = true := by rw [dec_true]; exact hk
      rw [if_neg hp] at h ⊢
      obtain ⟨h1, h2, h3⟩ := findGo_at n r (i + 1) h (by omega)
      refine ⟨by omega, by simp; omega, ?_⟩
      have e : atI (y :: r) (findGo n r (i + 1) - i) = atI r (findGo n r (i + 1) - (i + 1)) := by
        unfold atI
        rw [show (findGo n r (i + 1) - i).toNat = (findGo n r (i + 1) - (i + 1)).toNat + 1 by omega]
        rfl
      rw [e]
      exact h3
def fndP (b : List Attr) (a : Attr) : Prop := 0 ≤ findGo a.name b 0 ∧ (atI b (findGo a.name b 0)).value = a.value
def rAttrsP (a b : List Attr) : Prop := (∀ x ∈ a, fndP b x) ∧ a.length = b.length
theorem rAttrs10_c (a b : List Attr) (ha : a.length ≤ 1000000000) (hb : b.length ≤ 1000000000) : PureC Tryz.prog 54 [.imm (.sl (a.map Attr.iv)), .imm (.sl (b.map Attr.iv))] (bav (dec (rAttrsP a b))) := by
  refine PureC.mk tabs Tryz.func54 40 [.tmp 4] rfl rfl rfl rfl rfl ?_; intro w0 X
  (repeat' (first | ((with_reducible show AL _ _ _ _ _); first | (refine AL.step tabs rfl ?_; try dsimp only [len, List.nil_append, List.cons_append]) | refine AL.nil ?_ | (refine AL.gsplitE rfl rfl rfl (fun hc => ?_) (fun hc => ?_) <;> (fail_if_success (exact absurd hc (by decide))) <;> (try simp only [hsx] at hc) <;> (try first | (exfalso; omega) | contradiction | (exfalso; simp [dec_eq] at hc; done))) | (refine AL.op rfl (OpOK.ari64 rfl rfl rfl rfl rfl (by omega) (by omega)) ?_) | (refine AL.op rfl (OpOK.index_map tabs rfl rfl rfl rfl rfl rfl rfl (fun _ => rfl) (by decide) (by omega) (by omega)) ?_) | (refine AL.op rfl (OpOK.eqs rfl rfl rfl rfl eqt45 rfl rfl) ?_) | (refine AL.op rfl (OpOK.eqs rfl rfl rfl rfl eqt68 rfl rfl) ?_) | (refine AL.op rfl (OpOK.eqs rfl rfl rfl rfl eqt146 rfl rfl) ?_) | (refine AL.op rfl (OpOK.eqs rfl rfl rfl rfl eqt151 rfl rfl) ?_)) | ((with_reducible show DQ _ _ _ _ _ _); first | refine DQ.stepc (LS.val tabs rfl rfl rfl) rfl rfl rfl rfl rfl ?_ | refine DQ.stepc (LS.skip rfl rfl) rfl rfl rfl rfl rfl ?_ | refine DQ.nilM (by kernel_rfl) ?_ | refine DQ.stepc (LS.ari64 rfl rfl rfl rfl rfl rfl (by omega) (by omega)) rfl rfl rfl rfl rfl ?_ | refine DQ.stepc (LS.index_map tabs rfl rfl rfl rfl rfl rfl rfl rfl (fun _ => rfl) (by decide) (by omega) (by omega)) rfl rfl rfl rfl rfl ?_ | (refine DQ.gsplitE rfl rfl rfl (fun hc => ?_) (fun hc => ?_) <;> (fail_if_success (exact absurd hc (by decide))) <;> (try simp only [hsx] at hc) <;> (try first | (exfalso; omega) | contradiction | (exfalso; simp [dec_eq] at hc; done))) | refine DQ.stepc (LS.eqs rfl rfl rfl rfl rfl eqt45 rfl rfl) rfl rfl rfl rfl rfl ?_ | refine DQ.stepc (LS.eqs rfl rfl rfl rfl rfl eqt68 rfl rfl) rfl rfl rfl rfl rfl ?_ | refine DQ.stepc (LS.eqs rfl rfl rfl rfl rfl eqt146 rfl rfl) rfl rfl rfl rfl rfl ?_ | refine DQ.stepc (LS.eqs rfl rfl rfl rfl rfl eqt151 rfl rfl) rfl rfl rfl rfl rfl ?_) | fail | refine AW.seq ?_ | refine AW.region ?_ | refine Then.norm ?_ | refine AW.skip ?_ | refine AW.block ?_ | refine InB.norm ?_ | refine AW.condT rfl ?_ | refine AW.condF rfl ?_ | (refine AW.cond rfl (fun hc => ?_) (fun hc => ?_) <;> (try simp only [hsx] at hc) <;> (try first | (exfalso; omega) | contradiction | (exfalso; simp [dec_eq] at hc; done))) | refine AW.ret ?_ | refine AW.exit ?_ | refine Then.ret ?_ | refine Then.exit ?_ | refine InB.ret ?_ | refine InB.here ?_ | refine InB.off rfl ?_ | refine Rnd.ret ?_ | refine Rnd.exit ?_ | refine AW.drawW mixed (by kernel_rfl) ?_))
  refine AW.loop (α := Int) (fun i => ⟨[(0, .imm (.sl (a.map Attr.iv))), (1, .imm (.sl (b.map Attr.iv))), (5, iav i)], []⟩) (fun i => 0 ≤ i ∧ i ≤ a.length ∧ ∀ x ∈ a.take i.toNat, fndP b x) (fun i => (a.length - i).toNat) 0 (Le.cut 0 rfl (by repeat' (first | exact trivial | refine ⟨rfl, ?_⟩)) rfl rfl (Nat.zero_le _)) ⟨by omega, by omega, fun x hx => by simp at hx⟩ ?_
  intro i ⟨h0, h1, h2⟩
  have hat := findGo_at (atI a i).name b 0
  (repeat' (first | ((with_reducible show AL _ _ _ _ _); first | (refine AL.step tabs rfl ?_; try dsimp only [len, List.nil_append, List.cons_append]) | refine AL.op rfl (OpOK.call rfl rfl rfl rfl (rFind_c b (atI a i).name hb) rfl) ?_ | refine AL.nil ?_ | (refine AL.gsplitE rfl rfl rfl (fun hc => ?_) (fun hc => ?_) <;> (fail_if_success (exact absurd hc (by decide))) <;> (try simp only [hsx] at hc) <;> (try first | (exfalso; omega) | contradiction | (exfalso; simp [dec_eq] at hc; done))) | (refine AL.op rfl (OpOK.ari64 rfl rfl rfl rfl rfl (by omega) (by omega)) ?_) | (refine AL.op rfl (OpOK.index_map tabs rfl rfl rfl rfl rfl rfl rfl (fun _ => rfl) (by decide) (by omega) (by omega)) ?_) | (refine AL.op rfl (OpOK.eqs rfl rfl rfl rfl eqt45 rfl rfl) ?_) | (refine AL.op rfl (OpOK.eqs rfl rfl rfl rfl eqt68 rfl rfl) ?_) | (refine AL.op rfl (OpOK.eqs rfl rfl rfl rfl eqt146 rfl rfl) ?_) | (refine AL.op rfl (OpOK.eqs rfl rfl rfl rfl eqt151 rfl rfl) ?_)) | ((with_reducible show DQ _ _ _ _ _ _); first | refine DQ.stepc (LS.val tabs rfl rfl rfl) rfl rfl rfl rfl rfl ?_ | refine DQ.stepc (LS.skip rfl rfl) rfl rfl rfl rfl rfl ?_ | refine DQ.nilM (by kernel_rfl) ?_ | refine DQ.stepc (LS.ari64 rfl rfl rfl rfl rfl rfl (by omega) (by omega)) rfl rfl rfl rfl rfl ?_ | refine DQ.stepc (LS.index_map tabs rfl rfl rfl rfl rfl rfl rfl rfl (fun _ => rfl) (by decide) (by omega) (by omega)) rfl rfl rfl rfl rfl ?_ | (refine DQ.gsplitE rfl rfl rfl (fun hc => ?_) (fun hc => ?_) <;> (fail_if_success (exact absurd hc (by decide))) <;> (try simp only [hsx] at hc) <;> (try first | (exfalso; omega) | contradiction | (exfalso; simp [dec_eq] at hc; done))) | refine DQ.stepc (LS.eqs rfl rfl rfl rfl rfl eqt45 rfl rfl) rfl rfl rfl rfl rfl ?_ | refine DQ.stepc (LS.eqs rfl rfl rfl rfl rfl eqt68 rfl rfl) rfl rfl rfl rfl rfl ?_ | refine DQ.stepc (LS.eqs rfl rfl rfl rfl rfl eqt146 rfl rfl) rfl rfl rfl rfl rfl ?_ | refine DQ.stepc (LS.eqs rfl rfl rfl rfl rfl eqt151 rfl rfl) rfl rfl rfl rfl rfl ?_) | refine AW.seq ?_ | refine AW.region ?_ | refine Then.norm ?_ | refine AW.skip ?_ | refine AW.block ?_ | refine InB.norm ?_ | refine AW.condT rfl ?_ | refine AW.condF rfl ?_ | (refine AW.cond rfl (fun hc => ?_) (fun hc => ?_) <;> (try simp only [hsx] at hc) <;> (try first | (exfalso; omega) | contradiction | (exfalso; simp [dec_eq] at hc; done))) | refine AW.ret ?_ | refine AW.exit ?_ | refine Then.ret ?_ | refine Then.exit ?_ | refine InB.ret ?_ | refine InB.here ?_ | refine InB.off rfl ?_ | refine Rnd.ret ?_ | refine Rnd.exit ?_ | refine AW.drawW mixed (by kernel_rfl) ?_))
  all_goals first
    | (rw [dec_neg (p := rAttrsP a b) (fun hr => by
        have h5 := hr.1 (atI a i) (atI_mem h0 (by assumption))
        unfold fndP at h5
        first | omega | exact hc h5.2)]
       exact RQ.fin rfl rfl rfl)
    | (refine Rnd.norm (i + 1) (Le.cut 0 rfl (by repeat' (first | exact trivial | refine ⟨rfl, ?_⟩)) rfl rfl (Nat.zero_le _)) ⟨by omega, by omega, fun x hx => ?_⟩ (by omega)
       rw [take_next h0 (by assumption)] at hx
       rcases List.mem_append.1 hx with h3 | h3
       · exact h2 x h3
       · rw [List.mem_singleton] at h3
         subst h3
         exact ⟨by assumption, hc⟩)
    | (rw [take_end (by assumption)] at h2
       refine RQ.fin rfl rfl (congrArg bav ?_)
       rw [Bool.eq_iff_iff]
       simp only [dec_true, rAttrsP, eq_true h2, true_and, List.length_map]
       omega)
def topP (x y : Node) : Prop := x.kind = y.kind ∧ x.name = y.name ∧ x.pub = y.pub ∧ x.sys = y.sys ∧ x.data = y.data ∧ rAttrsP x.attrs y.attrs ∧ x.kids.length = y.kids.length
def EqsR (f : List Node) (xs ys : List Int) (r : Bool) : Prop :=
  ∃ n : Nat, n ≤ xs.length ∧ (∀ j : Int, 0 ≤ j → j < n → PureC Tryz.prog 33 [fav f, iav (atI xs j), iav (atI ys j)] (bav true)) ∧ (r = true → n = xs.length) ∧ (r = false → n < xs.length ∧ PureC Tryz.prog 33 [fav f, iav (atI xs n), iav (atI ys n)] (bav false))
theorem rEqNo_c (f : List Node) (a b : Int) (hf : Fit f) (ha : inR f a) (hb : inR f b) (h : ¬ topP (nodeAt f a) (nodeAt f b)) : PureC Tryz.prog 33 [fav f, iav a, iav b] (bav false) := by
  have ha1 := rOf_c f a hf.len ha
  have hb1 := rOf_c f b hf.len hb
  have fa := hf.at a
  have fb := hf.at b
  have k1 := fa.kids
  have k2 := fb.kids
  obtain ⟨x, hx⟩ : ∃ x, x = nodeAt f a := ⟨_, rfl⟩
  obtain ⟨y, hy⟩ : ∃ y, y = nodeAt f b := ⟨_, rfl⟩
  rw [← hx] at ha1 h fa k1
  rw [← hy] at hb1 h fb k2
  refine PureC.mk tabs Tryz.func33 87 [.tmp 6] rfl rfl rfl rfl rfl ?_; intro w0 X
  (repeat' (first | ((with_reducible show AL _ _ _ _ _); first | (refine AL.step tabs rfl ?_; try dsimp only [len, List.nil_append, List.cons_append]) | refine AL.op rfl (OpOK.call rfl rfl rfl rfl ha1 rfl) ?_ | refine AL.op rfl (OpOK.call rfl rfl rfl rfl hb1 rfl) ?_ | refine AL.op rfl (OpOK.call rfl rfl rfl rfl (rUnits_c x.data y.data fa.data) rfl) ?_ | refine AL.op rfl (OpOK.call rfl rfl rfl rfl (rAttrs10_c x.attrs y.attrs fa.attrs fb.attrs) rfl) ?_ | refine AL.nil ?_ | (refine AL.gsplitE rfl rfl rfl (fun hc => ?_) (fun hc => ?_) <;> (fail_if_success (exact absurd hc (by decide))) <;> (try simp only [hsx] at hc) <;> (try first | (exfalso; omega) | contradiction | (exfalso; simp [dec_eq] at hc; done))) | (refine AL.op rfl (OpOK.ari64 rfl rfl rfl rfl rfl (by omega) (by omega)) ?_) | (refine AL.op rfl (OpOK.index_map tabs rfl rfl rfl rfl rfl rfl rfl (fun _ => rfl) (by decide) (by omega) (by omega)) ?_) | (refine AL.op rfl (OpOK.eqs rfl rfl rfl rfl eqt45 rfl rfl) ?_) | (refine AL.op rfl (OpOK.eqs rfl rfl rfl rfl eqt68 rfl rfl) ?_) | (refine AL.op rfl (OpOK.eqs rfl rfl rfl rfl eqt146 rfl rfl) ?_) | (refine AL.op rfl (OpOK.eqs rfl rfl rfl rfl eqt151 rfl rfl) ?_)) | ((with_reducible show DQ _ _ _ _ _ _); first | refine DQ.stepc (LS.val tabs rfl rfl rfl) rfl rfl rfl rfl rfl ?_ | refine DQ.stepc (LS.skip rfl rfl) rfl rfl rfl rfl rfl ?_ | refine DQ.nilM (by kernel_rfl) ?_ | refine DQ.stepc (LS.ari64 rfl rfl rfl rfl rfl rfl (by omega) (by omega)) rfl rfl rfl rfl rfl ?_ | refine DQ.stepc (LS.index_map tabs rfl rfl rfl rfl rfl rfl rfl rfl (fun _ => rfl) (by decide) (by omega) (by omega)) rfl rfl rfl rfl rfl ?_ | (refine DQ.gsplitE rfl rfl rfl (fun hc => ?_) (fun hc => ?_) <;> (fail_if_success (exact absurd hc (by decide))) <;> (try simp only [hsx] at hc) <;> (try first | (exfalso; omega) | contradiction | (exfalso; simp [dec_eq] at hc; done))) | refine DQ.stepc (LS.eqs rfl rfl rfl rfl rfl eqt45 rfl rfl) rfl rfl rfl rfl rfl ?_ | refine DQ.stepc (LS.eqs rfl rfl rfl rfl rfl eqt68 rfl rfl) rfl rfl rfl rfl rfl ?_ | refine DQ.stepc (LS.eqs rfl rfl rfl rfl rfl eqt146 rfl rfl) rfl rfl rfl rfl rfl ?_ | refine DQ.stepc (LS.eqs rfl rfl rfl rfl rfl eqt151 rfl rfl) rfl rfl rfl rfl rfl ?_) | refine AW.seq ?_ | refine AW.region ?_ | refine Then.norm ?_ | refine AW.skip ?_ | refine AW.block ?_ | refine InB.norm ?_ | refine AW.condT rfl ?_ | refine AW.condF rfl ?_ | (refine AW.cond rfl (fun hc => ?_) (fun hc => ?_) <;> (try simp only [hsx] at hc) <;> (try first | (exfalso; omega) | contradiction | (exfalso; simp [dec_eq] at hc; done))) | refine AW.ret ?_ | refine AW.exit ?_ | refine Then.ret ?_ | refine Then.exit ?_ | refine InB.ret ?_ | refine InB.here ?_ | refine InB.off rfl ?_ | refine Rnd.ret ?_ | refine Rnd.exit ?_ | refine AW.drawW mixed (by kernel_rfl) ?_))
  all_goals first
    | exact RQ.fin rfl rfl rfl
    | (exfalso; apply h; simp only [Bool.and_eq_true, dec_true] at *; exact ⟨by assumption, (name_eq _ _).2 (by grind), by assumption, by assumption, by assumption, by assumption, by omega⟩)
theorem rEqYes_c (f : List Node) (a b : Int) (r : Bool) (hf : Fit f) (ha : inR f a) (hb : inR f b) (h : topP (nodeAt f a) (nodeAt f b)) (hr : EqsR f (nodeAt f a).kids (nodeAt f b).kids r) : PureC Tryz.prog 33 [fav f, iav a, iav b] (bav r) := by
  have ha1 := rOf_c f a hf.len ha
  have hb1 := rOf_c f b hf.len hb
  have fa := hf.at a
  have fb := hf.at b
  have k1 := fa.kids
  have k2 := fb.kids
  obtain ⟨x, hx⟩ : ∃ x, x = nodeAt f a := ⟨_, rfl⟩
  obtain ⟨y, hy⟩ : ∃ y, y = nodeAt f b := ⟨_, rfl⟩
  rw [← hx] at ha1 h fa k1 hr
  rw [← hy] at hb1 h fb k2 hr
  obtain ⟨t1, t2, t3, t4, t5, t6, t7⟩ := h
  rw [name_eq] at t2
  obtain ⟨n, n1, n2, n3, n4⟩ := hr
  refine PureC.mk tabs Tryz.func33 87 [.tmp 6] rfl rfl rfl rfl rfl ?_; intro w0 X
  (repeat' (first | ((with_reducible show AL _ _ _ _ _); first | (refine AL.step tabs rfl ?_; try dsimp only [len, List.nil_append, List.cons_append]) | refine AL.op rfl (OpOK.call rfl rfl rfl rfl ha1 rfl) ?_ | refine AL.op rfl (OpOK.call rfl rfl rfl rfl hb1 rfl) ?_ | refine AL.op rfl (OpOK.call rfl rfl rfl rfl (rUnits_c x.data y.data fa.data) rfl) ?_ | refine AL.op rfl (OpOK.call rfl rfl rfl rfl (rAttrs10_c x.attrs y.attrs fa.attrs fb.attrs) rfl) ?_ | refine AL.nil ?_ | (refine AL.gsplitE rfl rfl rfl (fun hc => ?_) (fun hc => ?_) <;> (fail_if_success (exact absurd hc (by decide))) <;> (try simp only [hsx] at hc) <;> (try first | (exfalso; omega) | contradiction | (exfalso; simp [dec_eq] at hc; done))) | (refine AL.op rfl (OpOK.ari64 rfl rfl rfl rfl rfl (by omega) (by omega)) ?_) | (refine AL.op rfl (OpOK.index_map tabs rfl rfl rfl rfl rfl rfl rfl (fun _ => rfl) (by decide) (by omega) (by omega)) ?_) | (refine AL.op rfl (OpOK.eqs rfl rfl rfl rfl eqt45 rfl rfl) ?_) | (refine AL.op rfl (OpOK.eqs rfl rfl rfl rfl eqt68 rfl rfl) ?_) | (refine AL.op rfl (OpOK.eqs rfl rfl rfl rfl eqt146 rfl rfl) ?_) | (refine AL.op rfl (OpOK.eqs rfl rfl rfl rfl eqt151 rfl rfl) ?_)) | ((with_reducible show DQ _ _ _ _ _ _); first | refine DQ.stepc (LS.val tabs rfl rfl rfl) rfl rfl rfl rfl rfl ?_ | refine DQ.stepc (LS.skip rfl rfl) rfl rfl rfl rfl rfl ?_ | refine DQ.nilM (by kernel_rfl) ?_ | refine DQ.stepc (LS.ari64 rfl rfl rfl rfl rfl rfl (by omega) (by omega)) rfl rfl rfl rfl rfl ?_ | refine DQ.stepc (LS.index_map tabs rfl rfl rfl rfl rfl rfl rfl rfl (fun _ => rfl) (by decide) (by omega) (by omega)) rfl rfl rfl rfl rfl ?_ | (refine DQ.gsplitE rfl rfl rfl (fun hc => ?_) (fun hc => ?_) <;> (fail_if_success (exact absurd hc (by decide))) <;> (try simp only [hsx] at hc) <;> (try first | (exfalso; omega) | contradiction | (exfalso; simp [dec_eq] at hc; done))) | refine DQ.stepc (LS.eqs rfl rfl rfl rfl rfl eqt45 rfl rfl) rfl rfl rfl rfl rfl ?_ | refine DQ.stepc (LS.eqs rfl rfl rfl rfl rfl eqt68 rfl rfl) rfl rfl rfl rfl rfl ?_ | refine DQ.stepc (LS.eqs rfl rfl rfl rfl rfl eqt146 rfl rfl) rfl rfl rfl rfl rfl ?_ | refine DQ.stepc (LS.eqs rfl rfl rfl rfl rfl eqt151 rfl rfl) rfl rfl rfl rfl rfl ?_) | refine AW.seq ?_ | refine AW.region ?_ | refine Then.norm ?_ | refine AW.skip ?_ | refine AW.block ?_ | refine InB.norm ?_ | refine AW.condT rfl ?_ | refine AW.condF rfl ?_ | (refine AW.cond rfl (fun hc => ?_) (fun hc => ?_) <;> (try simp only [hsx] at hc) <;> (try first | (exfalso; omega) | contradiction | (exfalso; simp [dec_eq] at hc; done))) | refine AW.ret ?_ | refine AW.exit ?_ | refine Then.ret ?_ | refine Then.exit ?_ | refine InB.ret ?_ | refine InB.here ?_ | refine InB.off rfl ?_ | refine Rnd.ret ?_ | refine Rnd.exit ?_ | refine AW.drawW mixed (by kernel_rfl) ?_))
  all_goals first
    | (exfalso; first | omega | contradiction | (simp only [Bool.and_eq_false_iff, dec_false] at *; grind))
    | skip
  refine AW.loop (α := Int) (fun i => ⟨[(3, .ptr 0 1 0 0), (7, .ptr 1 1 0 0), (8, .ptr 2 1 0 0), (9, iav i)], [⟨24, 1, [[.imm (.sl (f.map Node.iv))]]⟩, ⟨52, 16, [x.iv.map .imm]⟩, ⟨52, 16, [y.iv.map .imm]⟩]⟩) (fun i => 0 ≤ i ∧ i ≤ n) (fun i => (x.kids.length - i).toNat) 0 (Le.cut 3 rfl (by repeat' (first | exact trivial | refine ⟨rfl, ?_⟩)) rfl rfl (Nat.zero_le _)) ⟨by omega, by omega⟩ ?_
  intro i ⟨h0, h1⟩
  by_cases hi : i < n
  · have := n2 i h0 hi
    (repeat' (first | ((with_reducible show AL _ _ _ _ _); first | (refine AL.step tabs rfl ?_; try dsimp only [len, List.nil_append, List.cons_append]) | refine AL.nil ?_ | (refine AL.gsplitE rfl rfl rfl (fun hc => ?_) (fun hc => ?_) <;> (fail_if_success (exact absurd hc (by decide))) <;> (try simp only [hsx] at hc) <;> (try first | (exfalso; omega) | contradiction | (exfalso; simp [dec_eq] at hc; done))) | (refine AL.op rfl (OpOK.ari64 rfl rfl rfl rfl rfl (by omega) (by omega)) ?_) | (refine AL.op rfl (OpOK.index_map tabs rfl rfl rfl rfl rfl rfl rfl (fun _ => rfl) (by decide) (by omega) (by omega)) ?_) | (refine AL.op rfl (OpOK.eqs rfl rfl rfl rfl eqt45 rfl rfl) ?_) | (refine AL.op rfl (OpOK.eqs rfl rfl rfl rfl eqt68 rfl rfl) ?_) | (refine AL.op rfl (OpOK.eqs rfl rfl rfl rfl eqt146 rfl rfl) ?_) | (refine AL.op rfl (OpOK.eqs rfl rfl rfl rfl eqt151 rfl rfl) ?_)) | ((with_reducible show DQ _ _ _ _ _ _); first | refine DQ.stepc (LS.call rfl rfl rfl rfl rfl this rfl) rfl rfl rfl rfl rfl ?_ | refine DQ.stepc (LS.val tabs rfl rfl rfl) rfl rfl rfl rfl rfl ?_ | refine DQ.stepc (LS.skip rfl rfl) rfl rfl rfl rfl rfl ?_ | refine DQ.nilM (by kernel_rfl) ?_ | refine DQ.stepc (LS.ari64 rfl rfl rfl rfl rfl rfl (by omega) (by omega)) rfl rfl rfl rfl rfl ?_ | refine DQ.stepc (LS.index_map tabs rfl rfl rfl rfl rfl rfl rfl rfl (fun _ => rfl) (by decide) (by omega) (by omega)) rfl rfl rfl rfl rfl ?_ | (refine DQ.gsplitE rfl rfl rfl (fun hc => ?_) (fun hc => ?_) <;> (fail_if_success (exact absurd hc (by decide))) <;> (try simp only [hsx] at hc) <;> (try first | (exfalso; omega) | contradiction | (exfalso; simp [dec_eq] at hc; done))) | refine DQ.stepc (LS.eqs rfl rfl rfl rfl rfl eqt45 rfl rfl) rfl rfl rfl rfl rfl ?_ | refine DQ.stepc (LS.eqs rfl rfl rfl rfl rfl eqt68 rfl rfl) rfl rfl rfl rfl rfl ?_ | refine DQ.stepc (LS.eqs rfl rfl rfl rfl rfl eqt146 rfl rfl) rfl rfl rfl rfl rfl ?_ | refine DQ.stepc (LS.eqs rfl rfl rfl rfl rfl eqt151 rfl rfl) rfl rfl rfl rfl rfl ?_) | refine AW.seq ?_ | refine AW.region ?_ | refine Then.norm ?_ | refine AW.skip ?_ | refine AW.block ?_ | refine InB.norm ?_ | refine AW.condT rfl ?_ | refine AW.condF rfl ?_ | (refine AW.cond rfl (fun hc => ?_) (fun hc => ?_) <;> (try simp only [hsx] at hc) <;> (try first | (exfalso; omega) | contradiction | (exfalso; simp [dec_eq] at hc; done))) | refine AW.ret ?_ | refine AW.exit ?_ | refine Then.ret ?_ | refine Then.exit ?_ | refine InB.ret ?_ | refine InB.here ?_ | refine InB.off rfl ?_ | refine Rnd.ret ?_ | refine Rnd.exit ?_ | refine AW.drawW mixed (by kernel_rfl) ?_))
    refine Rnd.norm (i + 1) (Le.cut 3 rfl (by repeat' (first | exact trivial | refine ⟨rfl, ?_⟩)) rfl rfl (Nat.zero_le _)) ⟨by omega, by omega⟩ (by omega)
  · have hin : i = n := by omega
    subst hin
    cases r with
    | true =>
      have := n3 rfl
      (repeat' (first | ((with_reducible show AL _ _ _ _ _); first | (refine AL.step tabs rfl ?_; try dsimp only [len, List.nil_append, List.cons_append]) | refine AL.nil ?_ | (refine AL.gsplitE rfl rfl rfl (fun hc => ?_) (fun hc => ?_) <;> (fail_if_success (exact absurd hc (by decide))) <;> (try simp only [hsx] at hc) <;> (try first | (exfalso; omega) | contradiction | (exfalso; simp [dec_eq] at hc; done))) | (refine AL.op rfl (OpOK.ari64 rfl rfl rfl rfl rfl (by omega) (by omega)) ?_) | (refine AL.op rfl (OpOK.index_map tabs rfl rfl rfl rfl rfl rfl rfl (fun _ => rfl) (by decide) (by omega) (by omega)) ?_) | (refine AL.op rfl (OpOK.eqs rfl rfl rfl rfl eqt45 rfl rfl) ?_) | (refine AL.op rfl (OpOK.eqs rfl rfl rfl rfl eqt68 rfl rfl) ?_) | (refine AL.op rfl (OpOK.eqs rfl rfl rfl rfl eqt146 rfl rfl) ?_) | (refine AL.op rfl (OpOK.eqs rfl rfl rfl rfl eqt151 rfl rfl) ?_)) | ((with_reducible show DQ _ _ _ _ _ _); first | refine DQ.stepc (LS.val tabs rfl rfl rfl) rfl rfl rfl rfl rfl ?_ | refine DQ.stepc (LS.skip rfl rfl) rfl rfl rfl rfl rfl ?_ | refine DQ.nilM (by kernel_rfl) ?_ | refine DQ.stepc (LS.ari64 rfl rfl rfl rfl rfl rfl (by omega) (by omega)) rfl rfl rfl rfl rfl ?_ | refine DQ.stepc (LS.index_map tabs rfl rfl rfl rfl rfl rfl rfl rfl (fun _ => rfl) (by decide) (by omega) (by omega)) rfl rfl rfl rfl rfl ?_ | (refine DQ.gsplitE rfl rfl rfl (fun hc => ?_) (fun hc => ?_) <;> (fail_if_success (exact absurd hc (by decide))) <;> (try simp only [hsx] at hc) <;> (try first | (exfalso; omega) | contradiction | (exfalso; simp [dec_eq] at hc; done))) | refine DQ.stepc (LS.eqs rfl rfl rfl rfl rfl eqt45 rfl rfl) rfl rfl rfl rfl rfl ?_ | refine DQ.stepc (LS.eqs rfl rfl rfl rfl rfl eqt68 rfl rfl) rfl rfl rfl rfl rfl ?_ | refine DQ.stepc (LS.eqs rfl rfl rfl rfl rfl eqt146 rfl rfl) rfl rfl rfl rfl rfl ?_ | refine DQ.stepc (LS.eqs rfl rfl rfl rfl rfl eqt151 rfl rfl) rfl rfl rfl rfl rfl ?_) | refine AW.seq ?_ | refine AW.region ?_ | refine Then.norm ?_ | refine AW.skip ?_ | refine AW.block ?_ | refine InB.norm ?_ | refine AW.condT rfl ?_ | refine AW.condF rfl ?_ | (refine AW.cond rfl (fun hc => ?_) (fun hc => ?_) <;> (try simp only [hsx] at hc) <;> (try first | (exfalso; omega) | contradiction | (exfalso; simp [dec_eq] at hc; done))) | refine AW.ret ?_ | refine AW.exit ?_ | refine Then.ret ?_ | refine Then.exit ?_ | refine InB.ret ?_ | refine InB.here ?_ | refine InB.off rfl ?_ | refine Rnd.ret ?_ | refine Rnd.exit ?_ | refine AW.drawW mixed (by kernel_rfl) ?_))
      exact RQ.fin rfl rfl rfl
    | false =>
      obtain ⟨k1, k2⟩ := n4 rfl
      (repeat' (first | ((with_reducible show AL _ _ _ _ _); first | (refine AL.step tabs rfl ?_; try dsimp only [len, List.nil_append, List.cons_append]) | refine AL.nil ?_ | (refine AL.gsplitE rfl rfl rfl (fun hc => ?_) (fun hc => ?_) <;> (fail_if_success (exact absurd hc (by decide))) <;> (try simp only [hsx] at hc) <;> (try first | (exfalso; omega) | contradiction | (exfalso; simp [dec_eq] at hc; done))) | (refine AL.op rfl (OpOK.ari64 rfl rfl rfl rfl rfl (by omega) (by omega)) ?_) | (refine AL.op rfl (OpOK.index_map tabs rfl rfl rfl rfl rfl rfl rfl (fun _ => rfl) (by decide) (by omega) (by omega)) ?_) | (refine AL.op rfl (OpOK.eqs rfl rfl rfl rfl eqt45 rfl rfl) ?_) | (refine AL.op rfl (OpOK.eqs rfl rfl rfl rfl eqt68 rfl rfl) ?_) | (refine AL.op rfl (OpOK.eqs rfl rfl rfl rfl eqt146 rfl rfl) ?_) | (refine AL.op rfl (OpOK.eqs rfl rfl rfl rfl eqt151 rfl rfl) ?_)) | ((with_reducible show DQ _ _ _ _ _ _); first | refine DQ.stepc (LS.call rfl rfl rfl rfl rfl k2 rfl) rfl rfl rfl rfl rfl ?_ | refine DQ.stepc (LS.val tabs rfl rfl rfl) rfl rfl rfl rfl rfl ?_ | refine DQ.stepc (LS.skip rfl rfl) rfl rfl rfl rfl rfl ?_ | refine DQ.nilM (by kernel_rfl) ?_ | refine DQ.stepc (LS.ari64 rfl rfl rfl rfl rfl rfl (by omega) (by omega)) rfl rfl rfl rfl rfl ?_ | refine DQ.stepc (LS.index_map tabs rfl rfl rfl rfl rfl rfl rfl rfl (fun _ => rfl) (by decide) (by omega) (by omega)) rfl rfl rfl rfl rfl ?_ | (refine DQ.gsplitE rfl rfl rfl (fun hc => ?_) (fun hc => ?_) <;> (fail_if_success (exact absurd hc (by decide))) <;> (try simp only [hsx] at hc) <;> (try first | (exfalso; omega) | contradiction | (exfalso; simp [dec_eq] at hc; done))) | refine DQ.stepc (LS.eqs rfl rfl rfl rfl rfl eqt45 rfl rfl) rfl rfl rfl rfl rfl ?_ | refine DQ.stepc (LS.eqs rfl rfl rfl rfl rfl eqt68 rfl rfl) rfl rfl rfl rfl rfl ?_ | refine DQ.stepc (LS.eqs rfl rfl rfl rfl rfl eqt146 rfl rfl) rfl rfl rfl rfl rfl ?_ | refine DQ.stepc (LS.eqs rfl rfl rfl rfl rfl eqt151 rfl rfl) rfl rfl rfl rfl rfl ?_) | refine AW.seq ?_ | refine AW.region ?_ | refine Then.norm ?_ | refine AW.skip ?_ | refine AW.block ?_ | refine InB.norm ?_ | refine AW.condT rfl ?_ | refine AW.condF rfl ?_ | (refine AW.cond rfl (fun hc => ?_) (fun hc => ?_) <;> (try simp only [hsx] at hc) <;> (try first | (exfalso; omega) | contradiction | (exfalso; simp [dec_eq] at hc; done))) | refine AW.ret ?_ | refine AW.exit ?_ | refine Then.ret ?_ | refine Then.exit ?_ | refine InB.ret ?_ | refine InB.here ?_ | refine InB.off rfl ?_ | refine Rnd.ret ?_ | refine Rnd.exit ?_ | refine AW.drawW mixed (by kernel_rfl) ?_))
      exact RQ.fin rfl rfl rfl
theorem rAskNo_c (f : List Node) (a b : Int) (hf : Fit f) (hff : faultR f [a, b] ≠ 0) : PureC Tryz.prog 19 [fav f, iav a, iav b] (.tup [bav false, iav (faultR f [a, b])]) := by
  have hfa := rFault_c f [a, b] hf (by simp)
  obtain ⟨w, hw⟩ : ∃ w, w = faultR f [a, b] := ⟨_, rfl⟩
  rw [← hw] at hfa hff ⊢
  refine PureC.mk tabs Tryz.func19 21 [.tmp 6, .tmp 7] rfl rfl rfl rfl rfl ?_; intro w0 X
  (repeat' (first | ((with_reducible show AL _ _ _ _ _); first | (refine AL.step tabs rfl ?_; try dsimp only [len, List.nil_append, List.cons_append]) | refine AL.op rfl (OpOK.callfz rfl rfl rfl rfl hfa rfl rfl) ?_ | refine AL.nil ?_ | (refine AL.gsplitE rfl rfl rfl (fun hc => ?_) (fun hc => ?_) <;> (fail_if_success (exact absurd hc (by decide))) <;> (try simp only [hsx] at hc) <;> (try first | (exfalso; omega) | contradiction | (exfalso; simp [dec_eq] at hc; done))) | (refine AL.op rfl (OpOK.ari64 rfl rfl rfl rfl rfl (by omega) (by omega)) ?_) | (refine AL.op rfl (OpOK.index_map tabs rfl rfl rfl rfl rfl rfl rfl (fun _ => rfl) (by decide) (by omega) (by omega)) ?_) | (refine AL.op rfl (OpOK.eqs rfl rfl rfl rfl eqt45 rfl rfl) ?_) | (refine AL.op rfl (OpOK.eqs rfl rfl rfl rfl eqt68 rfl rfl) ?_) | (refine AL.op rfl (OpOK.eqs rfl rfl rfl rfl eqt146 rfl rfl) ?_) | (refine AL.op rfl (OpOK.eqs rfl rfl rfl rfl eqt151 rfl rfl) ?_)) | fail | refine AW.seq ?_ | refine AW.region ?_ | refine Then.norm ?_ | refine AW.skip ?_ | refine AW.block ?_ | refine InB.norm ?_ | refine AW.condT rfl ?_ | refine AW.condF rfl ?_ | (refine AW.cond rfl (fun hc => ?_) (fun hc => ?_) <;> (try simp only [hsx] at hc) <;> (try first | (exfalso; omega) | contradiction | (exfalso; simp [dec_eq] at hc; done))) | refine AW.ret ?_ | refine AW.exit ?_ | refine Then.ret ?_ | refine Then.exit ?_ | refine InB.ret ?_ | refine InB.here ?_ | refine InB.off rfl ?_ | refine Rnd.ret ?_ | refine Rnd.exit ?_))
  all_goals first
    | (exfalso; first | exact hff hc | omega)
    | exact RQ.fin rfl rfl rfl
theorem rAsk_c (f : List Node) (a b : Int) (r : Bool) (hf : Fit f) (hff : faultR f [a, b] = 0) (h : PureC Tryz.prog 33 [fav f, iav a, iav b] (bav r)) : PureC Tryz.prog 19 [fav f, iav a, iav b] (.tup [bav r, iav 0]) := by
  have hfa := rFault_c f [a, b] hf (by simp)
  rw [hff] at hfa
  refine PureC.mk tabs Tryz.func19 21 [.tmp 6, .tmp 7] rfl rfl rfl rfl rfl ?_; intro w0 X
  (repeat' (first | ((with_reducible show AL _ _ _ _ _); first | (refine AL.step tabs rfl ?_; try dsimp only [len, List.nil_append, List.cons_append]) | refine AL.op rfl (OpOK.callfz rfl rfl rfl rfl hfa rfl rfl) ?_ | refine AL.op rfl (OpOK.call rfl rfl rfl rfl h rfl) ?_ | refine AL.nil ?_ | (refine AL.gsplitE rfl rfl rfl (fun hc => ?_) (fun hc => ?_) <;> (fail_if_success (exact absurd hc (by decide))) <;> (try simp only [hsx] at hc) <;> (try first | (exfalso; omega) | contradiction | (exfalso; simp [dec_eq] at hc; done))) | (refine AL.op rfl (OpOK.ari64 rfl rfl rfl rfl rfl (by omega) (by omega)) ?_) | (refine AL.op rfl (OpOK.index_map tabs rfl rfl rfl rfl rfl rfl rfl (fun _ => rfl) (by decide) (by omega) (by omega)) ?_) | (refine AL.op rfl (OpOK.eqs rfl rfl rfl rfl eqt45 rfl rfl) ?_) | (refine AL.op rfl (OpOK.eqs rfl rfl rfl rfl eqt68 rfl rfl) ?_) | (refine AL.op rfl (OpOK.eqs rfl rfl rfl rfl eqt146 rfl rfl) ?_) | (refine AL.op rfl (OpOK.eqs rfl rfl rfl rfl eqt151 rfl rfl) ?_)) | refine AW.seq ?_ | refine AW.region ?_ | refine Then.norm ?_ | refine AW.skip ?_ | refine AW.block ?_ | refine InB.norm ?_ | refine AW.condT rfl ?_ | refine AW.condF rfl ?_ | (refine AW.cond rfl (fun hc => ?_) (fun hc => ?_) <;> (try simp only [hsx] at hc) <;> (try first | (exfalso; omega) | contradiction | (exfalso; simp [dec_eq] at hc; done))) | refine AW.ret ?_ | refine AW.exit ?_ | refine Then.ret ?_ | refine Then.exit ?_ | refine InB.ret ?_ | refine InB.here ?_ | refine InB.off rfl ?_ | refine Rnd.ret ?_ | refine Rnd.exit ?_))
  exact RQ.fin rfl rfl rfl
theorem cequals_c (f : List Node) (a b : Int) (x : Bool) (w : Int) (hb : PureC Tryz.prog 15 [] (bav true)) (h1 : PureC Tryz.prog 18 [fav f, iav a, iav b] (.tup [bav x, iav w])) (h2 : PureC Tryz.prog 19 [fav f, iav a, iav b] (.tup [bav x, iav w])) : PureC Tryz.prog 5 [fav f, iav a, iav b] (bav true) := by
  refine PureC.mk tabs Tryz.func5 36 [.tmp 6] rfl rfl rfl rfl rfl ?_; intro w0 X
  (repeat' (first | ((with_reducible show AL _ _ _ _ _); first | (refine AL.step tabs rfl ?_; try dsimp only [len, List.nil_append, List.cons_append]) | refine AL.op rfl (OpOK.call rfl rfl rfl rfl h1 rfl) ?_ | refine AL.op rfl (OpOK.call rfl rfl rfl rfl h2 rfl) ?_ | refine AL.op rfl (OpOK.call rfl rfl rfl rfl hb rfl) ?_ | refine AL.nil ?_ | (refine AL.gsplitE rfl rfl rfl (fun hc => ?_) (fun hc => ?_) <;> (fail_if_success (exact absurd hc (by decide))) <;> (try simp only [hsx] at hc) <;> (try first | (exfalso; omega) | contradiction | (exfalso; simp [dec_eq] at hc; done))) | (refine AL.op rfl (OpOK.ari64 rfl rfl rfl rfl rfl (by omega) (by omega)) ?_) | (refine AL.op rfl (OpOK.index_map tabs rfl rfl rfl rfl rfl rfl rfl (fun _ => rfl) (by decide) (by omega) (by omega)) ?_) | (refine AL.op rfl (OpOK.eqs rfl rfl rfl rfl eqt45 rfl rfl) ?_) | (refine AL.op rfl (OpOK.eqs rfl rfl rfl rfl eqt68 rfl rfl) ?_) | (refine AL.op rfl (OpOK.eqs rfl rfl rfl rfl eqt146 rfl rfl) ?_) | (refine AL.op rfl (OpOK.eqs rfl rfl rfl rfl eqt151 rfl rfl) ?_)) | refine AW.seq ?_ | refine AW.region ?_ | refine Then.norm ?_ | refine AW.skip ?_ | refine AW.block ?_ | refine InB.norm ?_ | refine AW.condT rfl ?_ | refine AW.condF rfl ?_ | (refine AW.cond rfl (fun hc => ?_) (fun hc => ?_) <;> (try simp only [hsx] at hc) <;> (try first | (exfalso; omega) | contradiction | (exfalso; simp [dec_eq] at hc; done))) | refine AW.ret ?_ | refine AW.exit ?_ | refine Then.ret ?_ | refine Then.exit ?_ | refine InB.ret ?_ | refine InB.here ?_ | refine InB.off rfl ?_ | refine Rnd.ret ?_ | refine Rnd.exit ?_))
  all_goals first
    | exact RQ.fin rfl rfl rfl
    | (exfalso; simp at hc; done)
    | (refine RQ.fin rfl rfl (congrArg bav ?_); simp [dec_dec'] at *; done)
end Go.Proofs.YteijifoobaoclaaGreat.A
namespace Go.Proofs.YteijifoobaoclaaGreat.A
set_option linter.unusedVariables false
set_option linter.unusedSimpArgs false
set_option maxRecDepth 100000
set_option maxHeartbeats 4000000
theorem len0 {α : Type} {l : List α} (h : ¬ 0 < (l.length : Int)) : l = [] := List.length_eq_zero_iff.1 (by omega)
structure MadeF (n : Node) : Prop where
  known : n.kind = 1 ∨ n.kind = 3 ∨ n.kind = 4 ∨ n.kind = 7 ∨ n.kind = 8 ∨ n.kind = 9 ∨ n.kind = 10 ∨ n.kind = 11 ∨ n.kind = 12
  ids : n.kind ≠ 10 → n.pub = es ∧ n.sys = es
  data : n.kind = 1 ∨ n.kind = 9 ∨ n.kind = 10 ∨ n.kind = 11 ∨ n.kind = 12 → n.data = []
  attrs : n.kind ≠ 1 → n.attrs = []
  name : n.kind = 9 ∨ n.kind = 11 ∨ n.kind = 12 → n.name = e0
  nodup : (n.attrs.map fun a => key a.name).Nodup
theorem made_f {n : Node} (h : madeP n) : MadeF n := by
  obtain ⟨⟨h1, h2, h3⟩, ⟨h4, h5⟩, ⟨h6, h7, h8⟩, ⟨h9, h10⟩, h11, h12⟩ := h
  have hk : n.kind = 1 ∨ n.kind = 3 ∨ n.kind = 4 ∨ n.kind = 7 ∨ n.kind = 8 ∨ n.kind = 9 ∨ n.kind = 10 ∨ n.kind = 11 ∨ n.kind = 12 := by
    by_cases h : n.kind = 1 ∨ n.kind = 3 ∨ n.kind = 4 ∨ n.kind = 7 ∨ n.kind = 8 ∨ n.kind = 9 ∨ n.kind = 10 ∨ n.kind = 11 ∨ n.kind = 12
    · exact h
    · exfalso
      unfold traitsOf at h1
      rw [if_neg (by omega), if_neg (by omega), if_neg (by omega), if_neg (by omega), if_neg (by omega)] at h1
      cases h1
  refine ⟨hk, fun e => h5.resolve_left e, fun e => ?_, fun e => len0 (h9.resolve_left e).1, fun e => ?_, ?_⟩
  · refine len0 (h7.resolve_left ?_)
    rcases e with e | e | e | e | e <;> simp [traitsOf, e]
  · unfold namingB at h2
    rw [name_eq]
    rcases e with e | e | e <;> (simp [traitsOf, e, dec_true] at h2; exact h2)
  · unfold attrsB at h3
    rw [Bool.and_eq_true] at h3
    exact (attrsGo_nodup _ _ h3.2).1
theorem nodup_key {l : List Attr} (h : (l.map fun a => key a.name).Nodup) : ∀ x ∈ l, ∀ y ∈ l, key x.name = key y.name → x = y := by
  induction l with
  | nil => intro x hx; cases hx
  | cons a r ih =>
    rw [List.map_cons, List.nodup_cons] at h
    intro x hx y hy e
    rcases List.mem_cons.1 hx with h1 | h1
    · rcases List.mem_cons.1 hy with h2 | h2
      · rw [h1, h2]
      · exact absurd (show key a.name ∈ r.map fun a => key a.name from List.mem_map.2 ⟨y, h2, by rw [← e, h1]⟩) h.1
    · rcases List.mem_cons.1 hy with h2 | h2
      · exact absurd (show key a.name ∈ r.map fun a => key a.name from List.mem_map.2 ⟨x, h1, by rw [e, h2]⟩) h.1
      · exact ih h.2 x h1 y h2 e
theorem fnd_same {b : List Attr} (hn : (b.map fun a => key a.name).Nodup) (x : Attr) : fndP b x ↔ ∃ y ∈ b, sameA x y := by
  unfold fndP
  constructor
  · rintro ⟨h1, h2⟩
    obtain ⟨h3, h4, h5⟩ := findGo_at x.name b 0 h1 (Int.le_refl _)
    rw [Int.sub_zero] at h5
    exact ⟨_, atI_mem h1 (by omega), h5.1.symm, h5.2.symm, h2.symm⟩
  · rintro ⟨y, hy, s1, s2, s3⟩
    have hk : keyP y x.name := ⟨s1.symm, s2.symm⟩
    have h1 := (findGo_iff x.name b 0 (Int.le_refl _)).2 ⟨y, hy, hk⟩
    obtain ⟨h3, h4, h5⟩ := findGo_at x.name b 0 h1 (Int.le_refl _)
    rw [Int.sub_zero] at h5
    have e := nodup_key hn _ (atI_mem h1 (by omega)) y hy (((keyP_key _ _).1 h5).trans ((keyP_key _ _).1 hk).symm)
    exact ⟨h1, by rw [e]; exact s3.symm⟩
theorem top_iff {x y : Node} (hx : MadeF x) (hy : MadeF y) : topP x y ↔ (x.kind = y.kind ∧ cmpP x.kind x y) ∧ x.kids.length = y.kids.length := by
  unfold topP rAttrsP
  constructor
  · rintro ⟨h1, h2, h3, h4, h5, ⟨h6, h7⟩, h8⟩
    refine ⟨⟨h1, fun _ => ⟨h2, h3, h4⟩, fun _ _ => ⟨h2, h7, fun a ha => (fnd_same hy.nodup a).1 (h6 a ha)⟩, fun _ _ _ => ⟨h2, h5⟩⟩, h8⟩
  · rintro ⟨⟨h1, h2, h3, h4⟩, h8⟩
    have hk := hx.known
    by_cases e10 : x.kind = 10
    · obtain ⟨a1, a2, a3⟩ := h2 e10
      refine ⟨h1, a1, a2, a3, ?_, ?_, h8⟩
      · rw [hx.data (by omega), hy.data (by omega)]
      · rw [hx.attrs (by omega), hy.attrs (by omega)]
        exact ⟨fun a ha => (by cases ha), rfl⟩
    · obtain ⟨x1, x2⟩ := hx.ids e10
      obtain ⟨y1, y2⟩ := hy.ids (by omega)
      by_cases e1 : x.kind = 1
      · obtain ⟨a1, a2, a3⟩ := h3 e10 e1
        refine ⟨h1, a1, by rw [x1, y1], by rw [x2, y2], ?_, ⟨fun a ha => (fnd_same hy.nodup a).2 (a3 a ha), a2⟩, h8⟩
        rw [hx.data (by omega), hy.data (by omega)]
      · have hat : (∀ a ∈ x.attrs, fndP y.attrs a) ∧ x.attrs.length = y.attrs.length := by
          rw [hx.attrs (by omega), hy.attrs (by omega)]
          exact ⟨fun a ha => (by cases ha), rfl⟩
        by_cases ed : dataB x.kind
        · obtain ⟨a1, a2⟩ := h4 e10 e1 ed
          exact ⟨h1, a1, by rw [x1, y1], by rw [x2, y2], a2, hat, h8⟩
        · have e9 : x.kind = 9 ∨ x.kind = 11 ∨ x.kind = 12 := by
            unfold dataB textB at ed
            omega
          refine ⟨h1, by rw [hx.name e9, hy.name (by omega)], by rw [x1, y1], by rw [x2, y2], ?_, hat, h8⟩
          rw [hx.data (by omega), hy.data (by omega)]
theorem rEqual_all (f : List Node) (hf : Fit f) (hr : rightP f) : ∀ a b : Int, inR f a → inR f b → PureC Tryz.prog 33 [fav f, iav a, iav b] (bav (dec (EqN f a b))) := by
  refine right_ind hr (fun a => ∀ b : Int, inR f a → inR f b → PureC Tryz.prog 33 [fav f, iav a, iav b] (bav (dec (EqN f a b)))) fun a ih b ha hb => ?_
  have hti := top_iff (made_f (right_node hr ha).1) (made_f (right_node hr hb).1)
  by_cases ht : topP (nodeAt f a) (nodeAt f b)
  · obtain ⟨hc, hl⟩ := hti.1 ht
    refine rEqYes_c f a b _ hf ha hb ht ?_
    unfold EqsR
    have ka : ∀ j : Int, 0 ≤ j → j < (nodeAt f a).kids.length → inR f (atI (nodeAt f a).kids j) := fun j j0 j1 => (right_kid hr ha (atI_mem j0 j1)).1
    have kb : ∀ j : Int, 0 ≤ j → j < (nodeAt f a).kids.length → inR f (atI (nodeAt f b).kids j) := fun j j0 j1 => (right_kid hr hb (atI_mem j0 (by omega))).1
    by_cases hall : ∀ j : Int, 0 ≤ j → j < (nodeAt f a).kids.length → EqN f (atI (nodeAt f a).kids j) (atI (nodeAt f b).kids j)
    · rw [dec_pos (.mk a b hc hl hall)]
      refine ⟨_, Nat.le_refl _, fun j h0 h1 => ?_, fun _ => rfl, fun h => by cases h⟩
      have := ih _ (atI_mem h0 h1) (atI (nodeAt f b).kids j) (ka j h0 h1) (kb j h0 h1)
      rw [dec_pos (hall j h0 h1)] at this
      exact this
    · rw [dec_neg (p := EqN f a b) (fun h => by cases h with | mk _ _ _ _ hk => exact hall hk)]
      obtain ⟨n, n1, n2, n3⟩ := least (P := fun j : Nat => EqN f (atI (nodeAt f a).kids (j : Int)) (atI (nodeAt f b).kids (j : Int))) (n := (nodeAt f a).kids.length) (by
        by_cases h : ∃ j : Nat, j < (nodeAt f a).kids.length ∧ ¬ EqN f (atI (nodeAt f a).kids (j : Int)) (atI (nodeAt f b).kids (j : Int))
        · exact h
        · exfalso
          apply hall
          intro j h0 h1
          by_cases h2 : EqN f (atI (nodeAt f a).kids j) (atI (nodeAt f b).kids j)
          · exact h2
          · exact absurd ⟨j.toNat, by omega, by rw [show ((j.toNat : Nat) : Int) = j by omega]; exact h2⟩ h)
      refine ⟨n, by omega, fun j h0 h1 => ?_, fun h => (by cases h), fun _ => ⟨n1, ?_⟩⟩
      · have := ih _ (atI_mem h0 (by omega)) (atI (nodeAt f b).kids j) (ka j h0 (by omega)) (kb j h0 (by omega))
        have h3 := n3 j.toNat (by omega)
        rw [show ((j.toNat : Nat) : Int) = j by omega] at h3
        rw [dec_pos h3] at this
        exact this
      · have := ih _ (atI_mem (i := (n : Int)) (by omega) (by omega)) (atI (nodeAt f b).kids (n : Int)) (ka n (by omega) (by omega)) (kb n (by omega) (by omega))
        rw [dec_neg n2] at this
        exact this
  · rw [dec_neg (p := EqN f a b) (fun h => by cases h with | mk _ _ hc hl _ => exact ht (hti.2 ⟨hc, hl⟩))]
    exact rEqNo_c f a b hf ha hb ht
theorem cequals_all (f : List Node) (a b : Int) (hf : Fit f) : PureC Tryz.prog 5 [fav f, iav a, iav b] (bav true) := by
  by_cases hff : faultR f [a, b] = 0
  · obtain ⟨hr, hl⟩ := fault_zero hff
    simp only [List.all_cons, List.all_nil, Bool.and_true, Bool.and_eq_true] at hl
    exact cequals_c f a b _ _ begins_true (equal_c f a b _ hf (equal_all f hf hr a b) hff) (rAsk_c f a b _ hf hff (rEqual_all f hf hr a b (in_pos hl.1).1 (in_pos hl.2).1))
  · exact cequals_c f a b _ _ begins_true (equalF_c f a b hf hff) (rAskNo_c f a b hf hff)
end Go.Proofs.YteijifoobaoclaaGreat.A
namespace Go.Proofs.YteijifoobaoclaaGreat.A
open Go.RowKit
set_option linter.unusedVariables false
set_option linter.unusedSimpArgs false
variable {P : Program} {α β : Type}
def noX : Nat → Prop := fun _ => False
theorem bulk_part {H : Type} {d : DataW H} {l : List (DataW H)} (h : d ∈ l) : Rows.uptoBulk d ≤ Rows.uptoBulkAll l := by
  induction l with
  | nil => cases h
  | cons x r ih =>
    simp only [Rows.uptoBulkAll]
    cases List.mem_cons.1 h with
    | inl e => subst e; omega
    | inr e => have := ih e; omega
theorem bulk_pos {H : Type} (d : DataW H) : 1 ≤ Rows.uptoBulk d := by
  cases d with
  | lit l => cases l <;> simp [Rows.uptoBulk]
  | nil => simp [Rows.uptoBulk]
  | ptr d => simp [Rows.uptoBulk]
  | slice elems spare => simp [Rows.uptoBulk]
  | agg parts => simp [Rows.uptoBulk]
  | iface t d => simp [Rows.uptoBulk]
  | map entries => simp [Rows.uptoBulk]
  | held h => simp [Rows.uptoBulk]
theorem bulk_length {H : Type} (l : List (DataW H)) : l.length ≤ Rows.uptoBulkAll l := by
  induction l with
  | nil => simp [Rows.uptoBulkAll]
  | cons x r ih => have := bulk_pos x; simp only [Rows.uptoBulkAll, List.length_cons]; omega
/-- type t's data reads as some a, which is rd a in cells; a fits: Fit, of a and the data's bulk. -/
structure Opens (P : Program) (t : TypeId) (rd : α → List IV) (sz : Nat) (Fit : α → Nat → Prop) : Prop where
  len : ∀ a, (rd a).length = sz
  get : ∀ {H : Type} {enc : TypeId × Value → H} {w : World} {spare : Nat → Bool} {held : Bool} {fuel : Nat} {cs : List Value} {x : DataW H × List MemPlace},
    DataW.trod enc P w 0 spare held fuel t cs = some x → ∃ a : α, All2 (RepI w noX) (rd a) cs ∧ Fit a (Rows.uptoBulk x.1)
  mono : ∀ {a : α} {b b' : Nat}, b ≤ b' → Fit a b → Fit a b'
theorem Opens.int {t : TypeId} {k : IntKind} (ht : P.underlying t = some (.int k)) : Opens P t (fun n : Int => [.int k n]) 1 (fun _ _ => True) where
  len := fun _ => rfl
  mono := fun _ h => h
  get := by
    intro H enc w spare held fuel cs x h
    obtain ⟨n, rfl, rfl, hw⟩ := DataW.trod_int ht h
    exact ⟨n, .cons (.int _ _) .nil, trivial⟩
theorem Opens.bool {t : TypeId} (ht : P.underlying t = some .bool) : Opens P t (fun b : Bool => [.bool b]) 1 (fun _ _ => True) where
  len := fun _ => rfl
  mono := fun _ h => h
  get := by
    intro H enc w spare held fuel cs x h
    obtain ⟨n, rfl, rfl⟩ := DataW.trod_bool ht h
    exact ⟨n, .cons (.bool _) .nil, trivial⟩
theorem Opens.string {t : TypeId} (ht : P.underlying t = some .string) : Opens P t (fun s : ByteArray => [.str s]) 1 (fun _ _ => True) where
  len := fun _ => rfl
  mono := fun _ h => h
  get := by
    intro H enc w spare held fuel cs x h
    obtain ⟨n, rfl, rfl, hw⟩ := DataW.trod_string ht h
    exact ⟨n, .cons (.str _) .nil, trivial⟩
theorem pick_list {Q : Nat → α → Prop} : ∀ n : Nat, (∀ i, i < n → ∃ p, Q i p) → ∃ xs : List α, xs.length = n ∧ ∀ i p, xs[i]? = some p → Q i p
  | 0, _ => ⟨[], rfl, fun i p h => by simp at h⟩
  | n + 1, h => by
    obtain ⟨xs, hl, hq⟩ := pick_list n (fun i hi => h i (by omega))
    obtain ⟨p, hp⟩ := h n (by omega)
    refine ⟨xs ++ [p], by simp [hl], fun i q hi => ?_⟩
    by_cases e : i < xs.length
    · rw [List.getElem?_append_left e] at hi
      exact hq i q hi
    · have hlt := (List.getElem?_eq_some_iff.1 hi).1
      simp [hl] at hlt
      obtain rfl : i = n := by omega
      rw [List.getElem?_append_right (by omega), hl, Nat.sub_self] at hi
      simp at hi
      subst hi
      exact hp
theorem all2_pairs {R : IV → Value → Prop} {rd : α → List IV} : ∀ {l : List (α × List Value)}, (∀ p ∈ l, All2 R (rd p.1) p.2) → All2 R ((l.map Prod.fst).map rd).flatten (l.map Prod.snd).flatten
  | [], _ => .nil
  | p :: r, h => by
    simp only [List.map_cons, List.flatten_cons]
    exact (h p (by simp)).append (all2_pairs fun q hq => h q (by simp [hq]))
theorem add_addA (a : Addr) (i j : Nat) : (a.add i).add j = a.add (i + j) := by
  unfold Addr.add
  by_cases hi : i = 0
  · subst hi; simp
  · by_cases hj : j = 0
    · subst hj; simp
    · simp [hi, hj, Nat.add_assoc]
theorem Opens.slice {t e : TypeId} {rd : α → List IV} {sz : Nat} {Fit : α → Nat → Prop} (ht : P.underlying t = some (.slice e)) (hc : P.cellsOf e = sz) (hsz : 0 < sz) (he : Opens P e rd sz Fit) :
    Opens P t (fun xs : List α => [.sl (xs.map rd)]) 1 (fun xs b => xs.length < b ∧ ∀ x ∈ xs, Fit x b) where
  len := fun _ => rfl
  mono := fun h h2 => ⟨Nat.lt_of_lt_of_le h2.1 h, fun x hx => he.mono h (h2.2 x hx)⟩
  get := by
    intro H enc w spare held fuel cs x h
    rcases DataW.trod_slice ht h with ⟨rfl, rfl⟩ | ⟨a, len, cap, elems, rest, n, _, rfl, rfl, hb, hl, hm, hlen, hel, _, _⟩
    · exact ⟨[], .cons (.nil _ _) .nil, by simp [Rows.uptoBulk]⟩
    · have each : ∀ i : Nat, i < len → ∃ p : α × List Value, All2 (RepI w noX) (rd p.1) p.2 ∧ p.2.length = sz ∧ (∀ j u, p.2[j]? = some u → w.cell? (a.add (i * sz + j)) = some u) ∧ ∃ y : DataW H × List MemPlace, elems[i]? = some y ∧ Fit p.1 (Rows.uptoBulk y.1) := by
        intro i hi
        have h1 := hel i hi
        obtain ⟨y, hy⟩ : ∃ y, elems[i]? = some y := ⟨_, List.getElem?_eq_getElem (by omega)⟩
        rw [hy, hc] at h1
        obtain ⟨c, hcs, htr⟩ := Option.bind_eq_some_iff.1 h1
        obtain ⟨p, hK, hF⟩ := he.get htr
        have hcl : c.length = sz := by rw [← hK.length, he.len]
        refine ⟨(p, c), hK, hcl, fun j u hj => ?_, y, hy, hF⟩
        unfold World.cells? at hcs
        rw [if_pos (Nat.zero_le _)] at hcs
        have hj2 : j < sz := by
          have := (List.getElem?_eq_some_iff.1 hj).1
          rw [← hcl]
          exact this
        have := mapM_some_get hcs j j (List.getElem?_range hj2)
        rw [← add_addA, this, hj]
      obtain ⟨xs, hxl, hxq⟩ := pick_list len each
      have hall : ∀ p ∈ xs, ∃ i, xs[i]? = some p := fun p hp => by
        obtain ⟨j, hj, rfl⟩ := List.getElem_of_mem hp
        exact ⟨j, List.getElem?_eq_getElem hj⟩
      refine ⟨xs.map Prod.fst, .cons ?_ .nil, ?_, ?_⟩
      · by_cases h0 : xs = []
        · subst h0
          simp at hxl
          subst hxl
          exact .nil _ _
        · have hr2 : ∀ r ∈ xs.map Prod.snd, r.length = sz := by
            intro r hr
            obtain ⟨p, hp, rfl⟩ := List.mem_map.1 hr
            obtain ⟨i, hi⟩ := hall p hp
            exact (hxq i p hi).2.1
          refine .sl _ a len cap sz (xs.map Prod.snd).flatten (by simpa using h0) hsz (by simp [hxl]) hl (fun h => h) ?_ ?_ (all2_pairs fun p hp => ?_)
          · intro r hr
            obtain ⟨p, _, rfl⟩ := List.mem_map.1 hr
            exact he.len p
          · intro k u hk
            have hk2 := (List.getElem?_eq_some_iff.1 hk).1
            rw [flat_len hr2] at hk2
            have hdm : k = k / sz * sz + k % sz := by rw [Nat.mul_comm]; exact (Nat.div_add_mod k sz).symm
            have hlt : k / sz < (xs.map Prod.snd).length := (Nat.div_lt_iff_lt_mul hsz).2 hk2
            obtain ⟨r, hr⟩ : ∃ r, (xs.map Prod.snd)[k / sz]? = some r := ⟨_, List.getElem?_eq_getElem hlt⟩
            have hg := flat_get hr2 hr (Nat.mod_lt k hsz)
            rw [← hdm, hk] at hg
            rw [List.getElem?_map] at hr
            obtain ⟨p, hp, rfl⟩ := Option.map_eq_some_iff.1 hr
            have := (hxq _ p hp).2.2.1 _ u hg.symm
            rw [← hdm] at this
            exact this
          · obtain ⟨i, hi⟩ := hall p hp
            exact (hxq i p hi).1
      · have h1 := bulk_length (elems.map (·.1))
        simp [Rows.uptoBulk] at h1 ⊢
        omega
      · intro p hp
        obtain ⟨q, hq, rfl⟩ := List.mem_map.1 hp
        obtain ⟨i, hi⟩ := hall q hq
        obtain ⟨_, _, _, y, hy, hF⟩ := hxq i q hi
        refine he.mono ?_ hF
        have hm : y.1 ∈ elems.map (·.1) := List.mem_map_of_mem (List.mem_of_getElem? hy)
        have := bulk_part hm
        simp only [Rows.uptoBulk]
        omega
/-- fields in line, from cell o on -/
structure OpensF (P : Program) (fs : List Field) (o : Nat) (rd : α → List IV) (sz : Nat) (Fit : α → Nat → Prop) : Prop where
  len : ∀ a, (rd a).length = sz
  get : ∀ {H : Type} {enc : TypeId × Value → H} {w : World} {spare : Nat → Bool} {held : Bool} {fuel : Nat} {cs : List Value} {xs : List (DataW H × List MemPlace)}, cs.length = o + sz →
    (fs.mapM fun f => DataW.trod enc P w 0 spare held fuel f.type ((cs.drop f.offset).take (P.cellsOf f.type))) = some xs → ∃ a : α, All2 (RepI w noX) (rd a) (cs.drop o) ∧ Fit a (Rows.uptoBulkAll (xs.map (·.1)))
  mono : ∀ {a : α} {b b' : Nat}, b ≤ b' → Fit a b → Fit a b'
theorem OpensF.one {f : Field} {o : Nat} {rd : α → List IV} {sz : Nat} {Fit : α → Nat → Prop} (h : Opens P f.type rd sz Fit) (ho : f.offset = o) (hc : P.cellsOf f.type = sz) : OpensF P [f] o rd sz Fit where
  len := h.len
  mono := h.mono
  get := by
    intro H enc w spare held fuel cs xs hl hx
    have h0 := mapM_some_get hx 0 f rfl
    have hlen := mapM_some_length hx
    obtain ⟨y, rfl⟩ : ∃ y, xs = [y] := by
      match xs, hlen with
      | [y], _ => exact ⟨y, rfl⟩
    simp at h0
    rw [ho, hc, List.take_of_length_le (by simp; omega)] at h0
    obtain ⟨a, hK, hF⟩ := h.get h0
    exact ⟨a, hK, h.mono (by simp [Rows.uptoBulkAll]) hF⟩
theorem OpensF.cons {f : Field} {fs : List Field} {o : Nat} {rd : α → List IV} {rd2 : β → List IV} {sz sz2 : Nat} {Fit : α → Nat → Prop} {Fit2 : β → Nat → Prop} (h : Opens P f.type rd sz Fit) (ho : f.offset = o) (hc : P.cellsOf f.type = sz) (h2 : OpensF P fs (o + sz) rd2 sz2 Fit2) :
    OpensF P (f :: fs) o (fun p : α × β => rd p.1 ++ rd2 p.2) (sz + sz2) (fun x b => Fit x.1 b ∧ Fit2 x.2 b) where
  len := fun p => by rw [List.length_append, h.len, h2.len]
  mono := fun hb hf => ⟨h.mono hb hf.1, h2.mono hb hf.2⟩
  get := by
    intro H enc w spare held fuel cs xs hl hx
    have hlen := mapM_some_length hx
    obtain ⟨y, ys, rfl⟩ : ∃ y ys, xs = y :: ys := by
      match xs, hlen with
      | y :: ys, _ => exact ⟨y, ys, rfl⟩
    have h0 := mapM_some_get hx 0 f rfl
    simp at h0
    rw [ho, hc] at h0
    obtain ⟨a, hK, hF⟩ := h.get h0
    have hx2 : (fs.mapM fun f => DataW.trod enc P w 0 spare held fuel f.type ((cs.drop f.offset).take (P.cellsOf f.type))) = some ys := by
      simp only [List.mapM_cons, Option.bind_eq_bind, Option.bind_eq_some_iff] at hx
      obtain ⟨y', hy', ys', hys, he⟩ := hx
      simp at he
      rw [hys, he.2]
    obtain ⟨b, hK2, hF2⟩ := h2.get (by rw [hl]; omega) hx2
    refine ⟨(a, b), ?_, h.mono (by simp [Rows.uptoBulkAll]) hF, h2.mono (by simp [Rows.uptoBulkAll]) hF2⟩
    have := hK.append hK2
    rw [← List.drop_drop, List.take_append_drop] at this
    exact this
theorem Opens.struct {t : TypeId} {fs : Array Field} {rd : α → List IV} {sz : Nat} {Fit : α → Nat → Prop} (ht : P.underlying t = some (.struct fs)) (hf : OpensF P fs.toList 0 rd sz Fit) (hc : P.cellsOf t = sz) : Opens P t rd sz Fit where
  len := hf.len
  mono := fun hb h => hf.mono hb h
  get := by
    intro H enc w spare held fuel cs x h
    cases fuel with
    | zero => simp [DataW.trod] at h
    | succ n =>
      unfold DataW.trod at h
      rw [ht] at h
      simp only at h
      split at h
      · rename_i hl
        obtain ⟨xs, hxs, rfl⟩ := Option.map_eq_some_iff.1 h
        obtain ⟨a, hK, hF⟩ := hf.get (by rw [hl, hc]; omega) hxs
        refine ⟨a, by simpa using hK, hf.mono (by simp [Rows.uptoBulk]) hF⟩
      · cases h
theorem Opens.iso {t : TypeId} {rd : α → List IV} {rd' : β → List IV} {sz : Nat} {Fit : α → Nat → Prop} {Fit' : β → Nat → Prop} (h : Opens P t rd sz Fit) (g : α → β) (hr : ∀ a, rd' (g a) = rd a) (gi : β → α) (hg : ∀ b, g (gi b) = b) (hf : ∀ a b, Fit a b → Fit' (g a) b) (hm : ∀ {a : β} {b b' : Nat}, b ≤ b' → Fit' a b → Fit' a b') : Opens P t rd' sz Fit' where
  len := fun b => by rw [← hg b, hr]; exact h.len _
  mono := hm
  get := by
    intro H enc w spare held fuel cs x hx
    obtain ⟨a, h1, h2⟩ := h.get hx
    exact ⟨g a, by rw [hr]; exact h1, hf _ _ h2⟩
end Go.Proofs.YteijifoobaoclaaGreat.A
namespace Go.Proofs.YteijifoobaoclaaGreat.A
open Go.RowKit
set_option linter.unusedVariables false
set_option linter.unusedSimpArgs false
theorem opName : Opens Tryz.prog 45 Name.iv 3 (fun _ _ => True) :=
  (Opens.struct Tryz.underlying45 (.cons (.string Tryz.underlying9) rfl (by kernel_rfl) (.cons (.string Tryz.underlying9) rfl (by kernel_rfl) (.one (.string Tryz.underlying9) rfl (by kernel_rfl)))) (by kernel_rfl)).iso
    (fun p => ⟨p.1, p.2.1, p.2.2⟩) (fun _ => rfl) (fun n => (n.sp, n.pf, n.lc)) (fun _ => rfl) (fun _ _ _ => trivial) (fun _ h => h)
theorem opAttr : Opens Tryz.prog 68 Attr.iv 4 (fun _ _ => True) :=
  (Opens.struct Tryz.underlying68 (.cons opName rfl (by kernel_rfl) (.one (.string Tryz.underlying9) rfl (by kernel_rfl))) (by kernel_rfl)).iso
    (fun p => ⟨p.1, p.2⟩) (fun _ => rfl) (fun n => (n.name, n.value)) (fun _ => rfl) (fun _ _ _ => trivial) (fun _ h => h)
theorem opNode : Opens Tryz.prog 52 Node.iv 16 (fun n b => n.data.length < b ∧ n.attrs.length < b ∧ n.kids.length < b) :=
  (Opens.struct Tryz.underlying52 (.cons (.int Tryz.underlying43) rfl (by kernel_rfl) (.cons opName rfl (by kernel_rfl) (.cons (.string Tryz.underlying9) rfl (by kernel_rfl) (.cons (.string Tryz.underlying9) rfl (by kernel_rfl)
    (.cons (.slice Tryz.underlying47 (by kernel_rfl) (by decide) (.int Tryz.underlying90)) rfl (by kernel_rfl) (.cons (.slice Tryz.underlying48 (by kernel_rfl) (by decide) opAttr) rfl (by kernel_rfl)
    (.cons (.int Tryz.underlying3) rfl (by kernel_rfl) (.cons (.slice Tryz.underlying49 (by kernel_rfl) (by decide) (.int Tryz.underlying3)) rfl (by kernel_rfl)
    (.cons (.int Tryz.underlying3) rfl (by kernel_rfl) (.cons (.int Tryz.underlying3) rfl (by kernel_rfl) (.cons (.int Tryz.underlying3) rfl (by kernel_rfl) (.cons (.int Tryz.underlying50) rfl (by kernel_rfl) (.cons (.bool Tryz.underlying4) rfl (by kernel_rfl) (.one (.bool Tryz.underlying4) rfl (by kernel_rfl))))))))))))))) (by kernel_rfl)).iso
    (fun p => ⟨p.1, p.2.1, p.2.2.1, p.2.2.2.1, p.2.2.2.2.1, p.2.2.2.2.2.1, p.2.2.2.2.2.2.1, p.2.2.2.2.2.2.2.1, p.2.2.2.2.2.2.2.2.1, p.2.2.2.2.2.2.2.2.2.1, p.2.2.2.2.2.2.2.2.2.2.1, p.2.2.2.2.2.2.2.2.2.2.2.1, p.2.2.2.2.2.2.2.2.2.2.2.2.1, p.2.2.2.2.2.2.2.2.2.2.2.2.2⟩) (fun _ => rfl)
    (fun n => (n.kind, n.name, n.pub, n.sys, n.data, n.attrs, n.parent, n.kids, n.doc, n.host, n.shadow, n.mode, n.manual, n.html)) (fun _ => rfl) (fun _ _ h => ⟨h.2.2.2.2.1.1, h.2.2.2.2.2.1.1, h.2.2.2.2.2.2.2.1.1⟩) (fun h h2 => ⟨Nat.lt_of_lt_of_le h2.1 h, Nat.lt_of_lt_of_le h2.2.1 h, Nat.lt_of_lt_of_le h2.2.2 h⟩)
theorem opForest : Opens Tryz.prog 24 (fun f : List Node => [.sl (f.map Node.iv)]) 1 (fun f b => f.length < b ∧ ∀ n ∈ f, n.data.length < b ∧ n.attrs.length < b ∧ n.kids.length < b) :=
  Opens.struct Tryz.underlying24 (.one (.slice Tryz.underlying22 (by kernel_rfl) (by decide) opNode) rfl (by kernel_rfl)) (by kernel_rfl)
theorem fit_bulk {f : List Node} {b : Nat} (hb : b ≤ 1048577) (h : f.length < b ∧ ∀ n ∈ f, n.data.length < b ∧ n.attrs.length < b ∧ n.kids.length < b) : Fit f :=
  ⟨by omega, fun n hn => by have := h.2 n hn; exact ⟨by omega, by omega, by omega⟩⟩
theorem argForest {w : World} {f : List Node} {cs : List Value} (h : All2 (RepI w noX) [.sl (f.map Node.iv)] cs) : RepA (M0 w noX) (fav f) (.agg cs.toArray) :=
  .agg _ _ (by
    cases h with
    | cons h1 h2 => cases h2; exact .cons (.imm _ _ h1) .nil)
theorem argInt {w : World} {k : IntKind} {n : Int} {v : Value} (h : All2 (RepI w noX) [.int k n] [v]) : RepA (M0 w noX) (.imm (.int k n)) v := by
  cases h with
  | cons h1 h2 => exact .imm _ _ h1
theorem argBool {w : World} {n : Bool} {v : Value} (h : All2 (RepI w noX) [.bool n] [v]) : RepA (M0 w noX) (.imm (.bool n)) v := by
  cases h with
  | cons h1 h2 => exact .imm _ _ h1
end Go.Proofs.YteijifoobaoclaaGreat.A
namespace Go.Proofs.YteijifoobaoclaaGreat.cloneEquals
open Go.ChangeShapes Go.WideShapes Go.ChangeAt Go.RowKit Go.Proofs.YteijifoobaoclaaGreat.A
set_option linter.unusedVariables false
theorem own : ownKnob Tryz.prog.godebug = none := by kernel_rfl
theorem laidOut : laidOutB Tryz.prog = true := by kernel_rfl
set_option maxRecDepth 100000 in
theorem contract (H : Type) (enc : TypeId × Value → H) (W : World) (base : Nat) (args : Array Value) (ds gs : List (DataW H)) (before : List MemPlace)
    (hval0 : ∀ (j : Nat) t v, Tryz.f5.params[j]? = some t → args[j]? = some v → Value.okWide Tryz.prog W .any base t v)
    (hW : DataW.Whole enc Tryz.prog Tryz.f5.params.toList Rows.cloneEqualsSpec.vars false W args.toList ds gs before) (hk : Rows.uptoSmall H (ds ++ gs) = true) :
    Calls Tryz.prog 5 args W fun e W' => ∃ v, e = .returned v ∧ Rows.cloneEqualsSpec.post enc Tryz.prog Tryz.f5 false true false false W args v W' := by
  have hval : ∀ (j : Nat) t v, Tryz.f5.params[j]? = some t → args[j]? = some v → Value.okWide Tryz.prog W .any base t v := hval0
  have hW' := hW
  obtain ⟨p, q, hA0, hV, rfl, hfz, hnd⟩ := hW
  have hA : DataW.TrodAll enc Tryz.prog W 0 (fun _ => true) true Tryz.f5.params.toList args.toList ds p := hA0
  rw [Tryz.params5] at hA hval
  obtain ⟨v0, vs0, d0, ds0, p0, q0, hargs, rfl, rfl, h0, r0⟩ := trodAll_cons hA
  obtain ⟨v1, vs1, d1, ds1, p1, q1, rfl, rfl, rfl, h1, r1⟩ := trodAll_cons r0
  obtain ⟨v2, vs2, d2, ds2, p2, q2, rfl, rfl, rfl, h2, r2⟩ := trodAll_cons r1
  obtain ⟨rfl, rfl, rfl⟩ := trodAll_nil r2
  obtain rfl : args = #[v0, v1, v2] := by cases args; simp_all
  obtain ⟨rfl, rfl⟩ := trodVars_none hV
  have hb : Rows.uptoBulkAll ([d0, d1, d2] : List (DataW H)) ≤ 1048576 := by
    have h_ := of_decide_eq_true hk
    simpa only [List.append_nil] using h_
  clear hk
  have lt0 : ∀ x ∈ p0, x.block < W.heap.size := by obtain ⟨m, hm⟩ := h0; exact DataW.trod_lt m _ _ _ hm
  have lt1 : ∀ x ∈ p1, x.block < W.heap.size := by obtain ⟨m, hm⟩ := h1; exact DataW.trod_lt m _ _ _ hm
  have lt2 : ∀ x ∈ p2, x.block < W.heap.size := by obtain ⟨m, hm⟩ := h2; exact DataW.trod_lt m _ _ _ hm
  have b0 : Rows.uptoBulk d0 ≤ 1048576 := Nat.le_trans (bulk_part (by simp)) hb
  have k0 := h0
  have k1 := h1
  have k2 := h2
  obtain ⟨m0, hm0⟩ := k0
  obtain ⟨x0, K0, F0⟩ := opForest.get hm0
  replace F0 := opForest.mono (Nat.le_succ_of_le b0) F0
  obtain ⟨cs0, rfl, _⟩ := okWide_struct Tryz.underlying24 (hval 0 24 v0 rfl rfl)
  obtain ⟨m1, hm1⟩ := k1
  obtain ⟨x1, K1, _⟩ := (Opens.int Tryz.underlying3).get hm1
  obtain ⟨z1, rfl, _, _, _⟩ := open_int Tryz.underlying3 (hval 1 3 v1 rfl rfl) h1
  obtain ⟨m2, hm2⟩ := k2
  obtain ⟨x2, K2, _⟩ := (Opens.int Tryz.underlying3).get hm2
  obtain ⟨z2, rfl, _, _, _⟩ := open_int Tryz.underlying3 (hval 2 3 v2 rfl rfl) h2
  refine ((cequals_all x0 x1 x2 (fit_bulk (Nat.le_refl _) F0)).2 W noX _ (fun b h => h.elim) (.cons (argForest K0) (.cons (argInt K1) (.cons (argInt K2) .nil)))).mono fun e W' ⟨x, he, bel, hx⟩ => ?_
  subst he
  obtain rfl : x = .bool true := by
    cases hx with
    | imm _ _ h => exact h.bool_inv
  exact ⟨_, rfl, _, _, _, [], _, [], hW', trodAll_mk1 (shut_bool Tryz.underlying4 _), (trodAll_cons_mk (Below.trod laidOut (by kernel_rfl) (of_decide_eq_true (by kernel_rfl)) h0 bel lt0) (trodAll_cons_mk (Below.trod laidOut (by kernel_rfl) (of_decide_eq_true (by kernel_rfl)) h1 bel lt1) (trodAll_cons_mk (Below.trod laidOut (by kernel_rfl) (of_decide_eq_true (by kernel_rfl)) h2 bel lt2) trodAll_mk0))), rfl, bel.frame _, fun h => by cases h⟩
set_option maxRecDepth 100000 in
theorem lifted (os : Os) (started : os.Started) (H : Type) (enc : TypeId × Value → H) (F : Stop.Interp) :
    ReturnsInHanded {} Tryz.checked os 5 .any ((Rows.OpenSpec.upto Rows.cloneEqualsSpec).pre6 enc Tryz.prog Tryz.f5 Rows.cloneEqualsUptoRow.domain false) (((Rows.OpenSpec.upto Rows.cloneEqualsSpec).at F).post enc Tryz.prog Tryz.f5 false true false false) := by
  refine returnsInHanded_of_cond (C := Tryz.checked) (s := Rows.OpenSpec.upto Rows.cloneEqualsSpec) (k := Rows.uptoSmall) rfl own started (by kernel_rfl) Tryz.func5
    (OpenSpec.witness (enc := enc) (C := Tryz.checked) (s := Rows.OpenSpec.upto Rows.cloneEqualsSpec) (k := Rows.uptoSmall) rfl false ⟨#[], #[.agg #[.slice none 0 0], .int .i64 0, .int .i64 0], []⟩ 8 (by kernel_rfl) (by kernel_rfl) (by kernel_rfl)
      (x := ([.agg [.nil], .lit (.int .i64 0), .lit (.int .i64 0)], [], [])) (by kernel_rfl) rfl (by kernel_rfl)) ?_
  intro W base args ds gs before hval hW _ hk _
  exact contract H enc W base args ds gs before hval hW hk
theorem over : Rows.cloneEqualsUptoRow.holds Tryz.pinned (Rows.OpenSpec.upto Rows.cloneEqualsSpec) :=
  OpenClaim.holds_of_cond 5 Tryz.f5 rfl rfl rfl rfl rfl rfl rfl ⟨rfl, rfl, rfl, rfl, rfl⟩ rfl rfl rfl rfl rfl (by kernel_rfl) Tryz.func5 (by kernel_rfl)
    (of_decide_eq_true (by kernel_rfl)) (by unfold Func.isWrapper; first | (rw [if_pos (by decide +kernel)]; kernel_rfl) | (rw [if_neg (by decide +kernel)]; exact ⟨rfl, rfl⟩))
    (fun os started H enc _ F => lifted os started H enc F)
end Go.Proofs.YteijifoobaoclaaGreat.cloneEquals
namespace Go.Proofs.YteijifoobaoclaaGreat
theorem cloneEquals_holds : Rows.CloneEqualsUptoSaid := cloneEquals.over
#print axioms cloneEquals_holds
end Go.Proofs.YteijifoobaoclaaGreat
