/- Plain words: the reference of layer 3 asks of a forest what the program asks. -/
import Derived.Test.YtjjdabihnmilgaaGreatXRTGrpAV
import Derived.Test.YtjjdabihnmilgaaGreatXRTGrpAM
import Derived.Test.YtjjdabihnmilgaaGreatXRTGrpAN
import Derived.Test.YtjjdabihnmilgaaGreatXRTGrpAU
import Derived.Test.YtjjdabihnmilgaaGreatRows
import Derived.ChangeArms
import Derived.WideShapes
import Derived.Test.YtjjdabihnmilgaaGreatXRTGrpAR
namespace Go.Proofs.YtjjdabihnmilgaaGreat.A
set_option linter.unusedVariables false
set_option linter.unusedSimpArgs false
set_option maxRecDepth 100000
set_option maxHeartbeats 4000000
theorem rNamed_eq (n : Name) : rNamedP n ↔ namedB n = true := by
  unfold rNamedP namedB shortB
  simp only [Bool.and_eq_true, Bool.or_eq_true, Bool.not_eq_true', dec_false, dec_true, List.all_cons, List.all_nil, Bool.and_true, decide_eq_true_eq]
  grind
theorem findGo_iff (n : Name) : ∀ (l : List Attr) (i : Int), 0 ≤ i → (0 ≤ findGo n l i ↔ ∃ y ∈ l, keyP y n)
  | [], i, h => by
    rw [findGo]
    simp
  | y :: r, i, h => by
    rw [findGo]
    by_cases hk : keyP y n
    · rw [if_pos (by rw [dec_true]; exact hk)]
      exact ⟨fun _ => ⟨y, by simp, hk⟩, fun _ => h⟩
    · rw [if_neg (by rw [dec_true]; exact hk), findGo_iff n r (i + 1) (by omega)]
      constructor
      · rintro ⟨z, hz, h2⟩
        exact ⟨z, by simp [hz], h2⟩
      · rintro ⟨z, hz, h2⟩
        rcases List.mem_cons.1 hz with rfl | hz
        · exact absurd h2 hk
        · exact ⟨z, hz, h2⟩
theorem keyP_key (y : Attr) (n : Name) : keyP y n ↔ key y.name = key n := by
  unfold keyP key
  simp only [Prod.mk.injEq]
theorem rAttrGo_eq : ∀ (l seen : List Attr), rAttrGo seen l = attrsGo (seen.map fun a => key a.name) l
  | [], _ => rfl
  | a :: r, seen => by
    rw [rAttrGo, attrsGo, rAttrGo_eq r (seen ++ [a])]
    have h1 : dec (rNamedP a.name) = namedB a.name := by rw [Bool.eq_iff_iff, dec_true]; exact rNamed_eq _
    rw [h1]
    have h2 : (0 ≤ findGo a.name seen 0) ↔ dec (key a.name ∈ seen.map fun a => key a.name) = true := by
      rw [findGo_iff a.name seen 0 (by omega), dec_true, List.mem_map]
      constructor
      · rintro ⟨y, hy, h⟩
        exact ⟨y, hy, (keyP_key _ _).1 h⟩
      · rintro ⟨y, hy, h⟩
        exact ⟨y, hy, (keyP_key _ _).2 h⟩
    have h4 : (4096 < a.value.size) = (4096 < (a.value.size : Int)) := by apply propext; omega
    by_cases h : 0 ≤ findGo a.name seen 0
    · rw [if_pos h, if_pos (h2.1 h)]
    · rw [if_neg h, if_neg (fun h3 => h (h2.2 h3))]
      simp
theorem rAttrB_eq (l : List Attr) : rAttrB l = attrsB l := by
  unfold rAttrB attrsB
  rw [rAttrGo_eq]
  rfl
theorem rMade_eq (n : Node) : rMadeP n ↔ madeP n := by
  have ha := rAttrB_eq n.attrs
  have hn := rNamed_eq n.name
  unfold rMadeP madeP p32 p66 p105 p126 p136 p148 m11 m27 m50 m77 m100 m200 knownP
  rw [ha]
  simp only [hasD, hasK, shortB, List.all_cons, List.all_nil, Bool.and_true, Bool.and_eq_true, decide_eq_true_eq]
  by_cases k1 : n.kind = 1
  · simp only [traitsOf, namingB, k1]
    simp [dec_true, shortB]
    grind
  by_cases k3 : n.kind = 3
  · simp only [traitsOf, namingB, k3]
    simp [dec_true, shortB]
    grind
  by_cases k4 : n.kind = 4
  · simp only [traitsOf, namingB, k4]
    simp [dec_true, shortB]
    grind
  by_cases k7 : n.kind = 7
  · simp only [traitsOf, namingB, k7]
    simp [dec_true, shortB]
    grind
  by_cases k8 : n.kind = 8
  · simp only [traitsOf, namingB, k8]
    simp [dec_true, shortB]
    grind
  by_cases k9 : n.kind = 9
  · simp only [traitsOf, namingB, k9]
    simp [dec_true, shortB]
    grind
  by_cases k10 : n.kind = 10
  · simp only [traitsOf, namingB, k10]
    simp [dec_true, shortB]
    grind
  by_cases k11 : n.kind = 11
  · simp only [traitsOf, namingB, k11]
    simp [dec_true, shortB]
    grind
  by_cases k12 : n.kind = 12
  · simp only [traitsOf, namingB, k12]
    simp [dec_true, shortB]
    grind
  simp [traitsOf, k1, k3, k4, k7, k8, k9, k10, k11, k12]
theorem cnt_nodup : ∀ (l : List Int), (∀ k ∈ l, (cntB l k : Int) = 1) ↔ l.Nodup
  | [] => by simp
  | x :: r => by
    have ih := cnt_nodup r
    have hx : ∀ k, cntB (x :: r) k = cntB r k + if x = k then 1 else 0 := fun k => by
      unfold cntB
      rw [List.countP_cons]
      simp
    have hz : ∀ k, cntB r k = 0 ↔ k ∉ r := fun k => by
      unfold cntB
      rw [List.countP_eq_zero]
      simp
      constructor
      · intro h hk; exact h k hk rfl
      · intro h a ha e; subst e; exact h ha
    rw [List.nodup_cons, ← ih]
    constructor
    · intro h
      have h0 := h x (by simp)
      rw [hx, if_pos rfl] at h0
      have hn := (hz x).1 (by omega)
      refine ⟨hn, fun k hk => ?_⟩
      have h1 := h k (by simp [hk])
      rw [hx, if_neg (fun e : x = k => hn (by rw [e]; exact hk))] at h1
      omega
    · rintro ⟨hn, h⟩ k hk
      rw [hx]
      rcases List.mem_cons.1 hk with rfl | hk
      · rw [if_pos rfl, (hz k).2 hn]; rfl
      · rw [if_neg (fun e : x = k => hn (by rw [e]; exact hk))]
        have := h k hk
        omega
theorem kidsGo_iff {f : List Node} {h doc : Int} : ∀ (l seen : List Int), kidsGo f h doc seen l = true ↔ (∀ k ∈ l, inB f k = true ∧ (nodeAt f k).parent = h ∧ (nodeAt f k).doc = doc ∧ k ∉ seen) ∧ l.Nodup
  | [], seen => by simp [kidsGo]
  | x :: r, seen => by
    rw [kidsGo, List.nodup_cons]
    by_cases h1 : inB f x = false
    · rw [if_pos h1]
      constructor
      · intro h; cases h
      · intro h2
        have := (h2.1 x (by simp)).1
        rw [h1] at this; cases this
    rw [if_neg h1]
    by_cases h2 : x ∈ seen
    · rw [if_pos (by rw [dec_true]; exact h2)]
      constructor
      · intro h; cases h
      · intro h3
        exact absurd h2 (h3.1 x (by simp)).2.2.2
    rw [if_neg (by rw [dec_true]; exact h2)]
    by_cases h3 : (nodeAt f x).parent = h
    · by_cases h4 : (nodeAt f x).doc = doc
      · rw [if_neg (by rw [dec_false]; exact fun h => h h3), if_neg (by rw [dec_false]; exact fun h => h h4), kidsGo_iff r (seen ++ [x])]
        constructor
        · rintro ⟨a, b⟩
          refine ⟨fun k hk => ?_, fun hx => (a x hx).2.2.2 (by simp), b⟩
          rcases List.mem_cons.1 hk with rfl | hk
          · exact ⟨by simpa using h1, h3, h4, h2⟩
          · obtain ⟨c1, c2, c3, c4⟩ := a k hk
            exact ⟨c1, c2, c3, fun h => c4 (by simp [h])⟩
        · rintro ⟨a, b, c⟩
          refine ⟨fun k hk => ?_, c⟩
          obtain ⟨c1, c2, c3, c4⟩ := a k (by simp [hk])
          refine ⟨c1, c2, c3, fun h => ?_⟩
          rcases List.mem_append.1 h with h | h
          · exact c4 h
          · rw [List.mem_singleton] at h
            subst h
            exact b hk
      · rw [if_neg (by rw [dec_false]; exact fun h => h h3), if_pos (by rw [dec_false]; exact h4)]
        constructor
        · intro h; cases h
        · intro h5
          exact absurd (h5.1 x (by simp)).2.2.1 h4
    · rw [if_pos (by rw [dec_false]; exact h3)]
      constructor
      · intro h; cases h
      · intro h5
        exact absurd (h5.1 x (by simp)).2.1 h3
theorem rLinks_eq (f : List Node) (h : Int) (n : Node) : rLinksP f h n ↔ linksP f h n := by
  unfold rLinksP linksP kidsB
  rw [Bool.and_eq_true, kidsGo_iff, ← cnt_nodup]
  unfold okKid
  constructor
  · rintro ⟨a, b, c, d, e, g⟩
    exact ⟨b, c, d, e, ⟨fun k hk => ⟨(a k hk).1, (a k hk).2.1, (a k hk).2.2.2, by simp⟩, fun k hk => (a k hk).2.2.1⟩, g⟩
  · rintro ⟨b, c, d, e, ⟨a, a2⟩, g⟩
    exact ⟨fun k hk => ⟨(a k hk).1, (a k hk).2.1, a2 k hk, (a k hk).2.2.1⟩, b, c, d, e, g⟩
end Go.Proofs.YtjjdabihnmilgaaGreat.A
namespace Go.Proofs.YtjjdabihnmilgaaGreat.A
set_option linter.unusedVariables false
set_option linter.unusedSimpArgs false
set_option maxRecDepth 100000
set_option maxHeartbeats 4000000
theorem dec_congr {p q : Prop} (h : p ↔ q) : dec p = dec q := by rw [propext h]
theorem rMade2_c (n : Node) (hn : FitN n) : PureC Tryz.prog 133 [n.av] (bav (dec (madeP n))) := by
  rw [← dec_congr (rMade_eq n)]
  exact rMade_c n hn.data hn.attrs hn.kids
theorem rLinks2_c (f : List Node) (i : Int) (hf : Fit f) (h0 : 0 ≤ i) (h1 : i < f.length) : PureC Tryz.prog 134 [fav f, iav (i + 1)] (bav (dec (linksP f (i + 1) (atI f i)))) := by
  have := rLinks_c f (i + 1) hf.len (fun h => (hf.at h).kids) (by rw [show i + 1 - 1 = i by omega]; exact (hf.atI i h0 h1).kids) (by omega) (by omega)
  rw [dec_congr (rLinks_eq f (i + 1) _), show i + 1 - 1 = i by omega] at this
  exact this
theorem rCheck_c (f : List Node) (hf : Fit f) : PureC Tryz.prog 88 [fav f] (.tup [iav (checkR f).1, iav (checkR f).2]) := by
  have hl := hf.len
  have hm : (List.map Node.iv f).length = f.length := List.length_map _
  refine PureC.mk tabs Tryz.func88 37 [.tmp 2, .tmp 3] rfl rfl rfl rfl rfl ?_; intro w0 X
  (repeat' (first | ((with_reducible show AL _ _ _ _ _); first | (refine AL.step tabs rfl ?_; try dsimp only [len, List.nil_append, List.cons_append]) | refine AL.nil ?_ | (refine AL.gsplitE rfl rfl rfl (fun hc => ?_) (fun hc => ?_) <;> (fail_if_success (exact absurd hc (by decide))) <;> (try simp only [hsx] at hc) <;> (try first | (exfalso; omega) | contradiction | (exfalso; simp [dec_eq] at hc; done))) | (refine AL.op rfl (OpOK.ari64 rfl rfl rfl rfl rfl (by omega) (by omega)) ?_) | (refine AL.op rfl (OpOK.index_map tabs rfl rfl rfl rfl rfl rfl rfl (fun _ => rfl) (by decide) (by omega) (by omega)) ?_)) | fail | refine AW.seq ?_ | refine AW.region ?_ | refine Then.norm ?_ | refine AW.skip ?_ | refine AW.block ?_ | refine InB.norm ?_ | refine AW.condT rfl ?_ | refine AW.condF rfl ?_ | (refine AW.cond rfl (fun hc => ?_) (fun hc => ?_) <;> (try simp only [hsx] at hc) <;> (try first | (exfalso; omega) | contradiction | (exfalso; simp [dec_eq] at hc; done))) | refine AW.ret ?_ | refine AW.exit ?_ | refine Then.ret ?_ | refine Then.exit ?_ | refine InB.ret ?_ | refine InB.here ?_ | refine InB.off rfl ?_ | refine Rnd.ret ?_ | refine Rnd.exit ?_))
  · rw [show checkR f = (5, 0) by unfold checkR; rw [if_pos (by omega)]]
    exact RQ.fin rfl rfl rfl
  rw [show checkR f = chkGo f f 0 by unfold checkR; rw [if_neg (by omega)]]
  refine AW.loop (α := Int) (fun i => ⟨[(1, .ptr 0 1 0 0), (11, .imm (.sl (f.map Node.iv))), (12, iav (List.map Node.iv f).length), (13, iav i)], [⟨24, 1, [[.imm (.sl (f.map Node.iv))]]⟩]⟩) (fun i => 0 ≤ i ∧ i ≤ f.length ∧ chkGo f (f.drop i.toNat) i = chkGo f f 0) (fun i => (f.length - i).toNat) 0 (Le.cut 1 rfl (by repeat' (first | exact trivial | refine ⟨rfl, ?_⟩)) rfl rfl (Nat.zero_le _)) ⟨by omega, by omega, rfl⟩ ?_
  intro i ⟨h0, h1, h2⟩
  (repeat' (first | ((with_reducible show AL _ _ _ _ _); first | (refine AL.step tabs rfl ?_; try dsimp only [len, List.nil_append, List.cons_append]) | refine AL.op rfl (OpOK.call rfl rfl rfl rfl (rMade2_c (atI f i) (hf.atI i (by omega) (by omega))) rfl) ?_ | refine AL.op rfl (OpOK.call rfl rfl rfl rfl (rLinks2_c f i hf (by omega) (by omega)) rfl) ?_ | refine AL.op rfl (OpOK.call rfl rfl rfl rfl (rRing_c f (i + 1) hl) rfl) ?_ | refine AL.nil ?_ | (refine AL.gsplitE rfl rfl rfl (fun hc => ?_) (fun hc => ?_) <;> (fail_if_success (exact absurd hc (by decide))) <;> (try simp only [hsx] at hc) <;> (try first | (exfalso; omega) | contradiction | (exfalso; simp [dec_eq] at hc; done))) | (refine AL.op rfl (OpOK.ari64 rfl rfl rfl rfl rfl (by omega) (by omega)) ?_) | (refine AL.op rfl (OpOK.index_map tabs rfl rfl rfl rfl rfl rfl rfl (fun _ => rfl) (by decide) (by omega) (by omega)) ?_)) | refine AW.seq ?_ | refine AW.region ?_ | refine Then.norm ?_ | refine AW.skip ?_ | refine AW.block ?_ | refine InB.norm ?_ | refine AW.condT rfl ?_ | refine AW.condF rfl ?_ | (refine AW.cond rfl (fun hc => ?_) (fun hc => ?_) <;> (try simp only [hsx] at hc) <;> (try first | (exfalso; omega) | contradiction | (exfalso; simp [dec_eq] at hc; done))) | refine AW.ret ?_ | refine AW.exit ?_ | refine Then.ret ?_ | refine Then.exit ?_ | refine InB.ret ?_ | refine InB.here ?_ | refine InB.off rfl ?_ | refine Rnd.ret ?_ | refine Rnd.exit ?_))
  all_goals first
    | (rw [← h2, drop_end hc]; exact RQ.fin rfl rfl rfl)
    | (have hn : ¬ okP f i (atI f i) := by
         intro hk
         obtain ⟨a1, a2, a3⟩ := hk
         first | exact hc a1 | exact hc a2 | exact hc a3
       rw [← h2, drop_next h0 (by assumption), chkGo, if_neg (by rw [dec_true]; exact hn)]
       exact RQ.fin rfl rfl rfl)
    | (refine Rnd.norm (i + 1) (Le.cut 1 rfl (by repeat' (first | exact trivial | refine ⟨rfl, ?_⟩)) rfl rfl (Nat.zero_le _)) ⟨by omega, by omega, ?_⟩ (by omega)
       rw [← h2, drop_next h0 (by assumption), chkGo, if_pos (by rw [dec_true]; exact ⟨by assumption, by assumption, Classical.byContradiction hc⟩)])
theorem rRight_c (f : List Node) (hf : Fit f) : PureC Tryz.prog 41 [fav f] (bav (dec (rightP f))) := by
  rw [show rightP f = ((checkR f).1 = 0) by rw [(checkR_zero f).2]]
  refine PureC.mk tabs Tryz.func41 12 [.tmp 2] rfl rfl rfl rfl rfl ?_; intro w0 X
  (repeat' (first | ((with_reducible show AL _ _ _ _ _); first | (refine AL.step tabs rfl ?_; try dsimp only [len, List.nil_append, List.cons_append]) | refine AL.op rfl (OpOK.call rfl rfl rfl rfl (rCheck_c f hf) rfl) ?_ | refine AL.nil ?_) | refine AW.seq ?_ | refine AW.region ?_ | refine Then.norm ?_ | refine AW.skip ?_ | refine AW.ret ?_ | refine Then.ret ?_))
  all_goals exact RQ.fin rfl rfl rfl
end Go.Proofs.YtjjdabihnmilgaaGreat.A
namespace Go.Proofs.YtjjdabihnmilgaaGreat.A
open Go.RowKit
set_option linter.unusedVariables false
set_option linter.unusedSimpArgs false
set_option maxRecDepth 100000
set_option maxHeartbeats 4000000
theorem dec_dec (p : Prop) [Decidable p] : dec p = decide p := dec_eq p
/-- rightP, node by node. -/
theorem right_of {f : List Node} (h : f.length ≤ 4096) (h2 : ∀ j : Nat, j < f.length → okP f (j : Int) (atI f j)) : rightP f := ⟨h, fun i h0 h1 => by
  have := h2 i.toNat (by omega)
  rw [show ((i.toNat : Nat) : Int) = i by omega] at this
  exact this⟩
theorem sz0 : (⟨#[]⟩ : ByteArray).size = 0 := rfl
theorem szp : (⟨#[112]⟩ : ByteArray).size = 1 := rfl
def docN : Node := { n0 with kind := 9, kids := [2], doc := 1 }
def elN (ks : List Int) : Node := { n0 with kind := 1, name := ⟨es, es, ⟨#[112]⟩⟩, parent := 1, kids := ks, doc := 1 }
def txN (d : List Int) (p : Int) : Node := { n0 with kind := 3, data := d, parent := p, doc := 1 }
def sm : List Node := [docN, elN [3, 4], txN [65, 66] 2, txN [67, 68] 2]
def smR : List Node := [docN, elN [4], txN [65, 66] 0, txN [67, 68] 2]
theorem sm_right : rightP sm := by
  refine right_of (by decide) fun j hj => ?_
  have hj' : j < 4 := hj
  match j, hj' with
  | 0, _ =>
    refine ⟨?_, ?_, 1, ?_⟩
    · simp [madeP, m11, m27, m50, m77, m100, m200, sm, docN, elN, txN, atI, n0, traitsOf, namingB, namedB, shortB, attrsB, attrsGo, es, sz0, szp, dec_dec]
    · simp [linksP, l1, l2, l3, l4, kidsB, kidsGo, famB, famGo, nodeAt, inB, cntB, sm, docN, elN, txN, atI, n0, dec_dec]
    · simp [inR, itN, upN, aboveOf, sm, docN, elN, txN, atI, n0]
  | 1, _ =>
    refine ⟨?_, ?_, 2, ?_⟩
    · simp [madeP, m11, m27, m50, m77, m100, m200, sm, docN, elN, txN, atI, n0, traitsOf, namingB, namedB, shortB, attrsB, attrsGo, es, sz0, szp, dec_dec]
    · simp [linksP, l1, l2, l3, l4, kidsB, kidsGo, famB, famGo, nodeAt, inB, cntB, sm, docN, elN, txN, atI, n0, dec_dec]
    · simp [inR, itN, upN, aboveOf, sm, docN, elN, txN, atI, n0]
  | 2, _ =>
    refine ⟨?_, ?_, 3, ?_⟩
    · simp [madeP, m11, m27, m50, m77, m100, m200, sm, docN, elN, txN, atI, n0, traitsOf, namingB, namedB, shortB, attrsB, attrsGo, es, sz0, szp, dec_dec]
    · simp [linksP, l1, l2, l3, l4, kidsB, kidsGo, famB, famGo, nodeAt, inB, cntB, sm, docN, elN, txN, atI, n0, dec_dec]
    · simp [inR, itN, upN, aboveOf, sm, docN, elN, txN, atI, n0]
  | 3, _ =>
    refine ⟨?_, ?_, 3, ?_⟩
    · simp [madeP, m11, m27, m50, m77, m100, m200, sm, docN, elN, txN, atI, n0, traitsOf, namingB, namedB, shortB, attrsB, attrsGo, es, sz0, szp, dec_dec]
    · simp [linksP, l1, l2, l3, l4, kidsB, kidsGo, famB, famGo, nodeAt, inB, cntB, sm, docN, elN, txN, atI, n0, dec_dec]
    · simp [inR, itN, upN, aboveOf, sm, docN, elN, txN, atI, n0]
theorem smR_right : rightP smR := by
  refine right_of (by decide) fun j hj => ?_
  have hj' : j < 4 := hj
  match j, hj' with
  | 0, _ =>
    refine ⟨?_, ?_, 1, ?_⟩
    · simp [madeP, m11, m27, m50, m77, m100, m200, smR, docN, elN, txN, atI, n0, traitsOf, namingB, namedB, shortB, attrsB, attrsGo, es, sz0, szp, dec_dec]
    · simp [linksP, l1, l2, l3, l4, kidsB, kidsGo, famB, famGo, nodeAt, inB, cntB, smR, docN, elN, txN, atI, n0, dec_dec]
    · simp [inR, itN, upN, aboveOf, smR, docN, elN, txN, atI, n0]
  | 1, _ =>
    refine ⟨?_, ?_, 2, ?_⟩
    · simp [madeP, m11, m27, m50, m77, m100, m200, smR, docN, elN, txN, atI, n0, traitsOf, namingB, namedB, shortB, attrsB, attrsGo, es, sz0, szp, dec_dec]
    · simp [linksP, l1, l2, l3, l4, kidsB, kidsGo, famB, famGo, nodeAt, inB, cntB, smR, docN, elN, txN, atI, n0, dec_dec]
    · simp [inR, itN, upN, aboveOf, smR, docN, elN, txN, atI, n0]
  | 2, _ =>
    refine ⟨?_, ?_, 1, ?_⟩
    · simp [madeP, m11, m27, m50, m77, m100, m200, smR, docN, elN, txN, atI, n0, traitsOf, namingB, namedB, shortB, attrsB, attrsGo, es, sz0, szp, dec_dec]
    · simp [linksP, l1, l2, l3, l4, kidsB, kidsGo, famB, famGo, nodeAt, inB, cntB, smR, docN, elN, txN, atI, n0, dec_dec]
    · simp [inR, itN, upN, aboveOf, smR, docN, elN, txN, atI, n0]
  | 3, _ =>
    refine ⟨?_, ?_, 3, ?_⟩
    · simp [madeP, m11, m27, m50, m77, m100, m200, smR, docN, elN, txN, atI, n0, traitsOf, namingB, namedB, shortB, attrsB, attrsGo, es, sz0, szp, dec_dec]
    · simp [linksP, l1, l2, l3, l4, kidsB, kidsGo, famB, famGo, nodeAt, inB, cntB, smR, docN, elN, txN, atI, n0, dec_dec]
    · simp [inR, itN, upN, aboveOf, smR, docN, elN, txN, atI, n0]
theorem sm_fit : Fit sm := ⟨by decide, fun n hn => by
  simp only [sm, List.mem_cons, List.not_mem_nil, or_false] at hn
  rcases hn with rfl | rfl | rfl | rfl <;> exact ⟨by decide, by decide, by decide⟩⟩
theorem sm_c : PureC Tryz.prog 40 [] (fav sm) := by
  refine PureC.mk tabs Tryz.func40 12 [.cell 0 24] rfl rfl rfl rfl rfl ?_; intro w0 X
  (repeat' (first | ((with_reducible show AL _ _ _ _ _); first | (refine AL.step tabs rfl ?_; try dsimp only [len, List.nil_append, List.cons_append]) | refine AL.nil ?_) | refine AW.seq ?_ | refine AW.region ?_ | refine Then.norm ?_ | refine AW.skip ?_ | refine AW.ret ?_ | refine Then.ret ?_))
  refine RQ.ret rfl (Fz.agg (.cons (Fz.osN (rows := sm.map Node.iv) (hb := rfl) (hver := ?_) (hlen := ?_) (hrl := ?_) (hr := ?_)) .nil))
  · rfl
  · rfl
  · intro r hr
    obtain ⟨n, _, rfl⟩ := List.mem_map.1 hr
    rfl
  repeat' (first | exact All2.nil | refine All2.cons ?_ ?_)
  all_goals first
    | exact FzI.imm _
    | exact FzI.of (Fz.cv rfl)
    | (refine FzI.of (Fz.os (hb := rfl) (hver := ?_) (hr := ?_)) <;> rfl)
def smC : Change := { c0 with kind := 3, node := 3, parent := 2 }
def smr : Rng := ⟨⟨3, 1⟩, ⟨4, 1⟩⟩
theorem up3 : ups sm 3 = [3, 2, 1] := ups_eq (m := 3) (.inr (.inr (.inr rfl)))
theorem up4 : ups sm 4 = [4, 2, 1] := ups_eq (m := 3) (.inr (.inr (.inr rfl)))
theorem rt3 : rootP sm 3 = 1 := by unfold rootP; rw [up3]; rfl
theorem rt4 : rootP sm 4 = 1 := by unfold rootP; rw [up4]; rfl
theorem hg1 : Hgt sm 3 1 := by
  intro k hk
  have : k = 2 := by simpa [nodeAt, sm, docN, atI] using hk
  subst this
  intro k hk
  have : k = 3 ∨ k = 4 := by simpa [nodeAt, sm, elN, atI] using hk
  rcases this with rfl | rfl
  · intro k hk
    have : k ∈ ([] : List Int) := hk
    cases this
  · intro k hk
    have : k ∈ ([] : List Int) := hk
    cases this
theorem beh34 : behP sm 3 4 = false := by
  unfold behP
  rw [rt3, wth_eq hg1]
  rfl
theorem bel34 : belowP sm 3 4 = 0 := by unfold belowP; rw [up4]; rfl
theorem len3 : lenP sm 3 = 2 := by simp [lenP, dataB, textB, nodeAt, sm, txN, atI, dec_dec]
theorem len4 : lenP sm 4 = 2 := by simp [lenP, dataB, textB, nodeAt, sm, txN, atI, dec_dec]
theorem len1 : lenP sm 1 = 1 := by simp [lenP, dataB, textB, nodeAt, sm, docN, atI, dec_dec]
theorem pos34 : posP sm ⟨3, 1⟩ ⟨4, 1⟩ = -1 := by
  unfold posP posD
  rw [beh34, bel34]
  simp
theorem smr_ok : rngOK sm smr := ⟨⟨⟨by decide, by decide⟩, by decide, by rw [show smr.s.n = 3 from rfl, len3]; decide⟩, ⟨⟨by decide, by decide⟩, by decide, by rw [show smr.e.n = 4 from rfl, len4]; decide⟩, by rw [show smr.s.n = 3 from rfl, show smr.e.n = 4 from rfl, rt3, rt4], by rw [show smr.s = ⟨3, 1⟩ from rfl, show smr.e = ⟨4, 1⟩ from rfl, pos34]; decide⟩
theorem sm_fg (l : List Rng) (ns : List Int) (hl : ∀ r ∈ l, r = smr) (hn : ∀ x ∈ ns, inR sm x) : faultG sm l ns = 0 := faultG_zero.2 ⟨sm_right, fun r hr => hl r hr ▸ smr_ok, hn⟩
theorem sm_done : PureC Tryz.prog 45 [fav sm, smC.av] (.tup [fav smR, iav 0]) := by
  have := doneRm_c sm smC sm_fit (by decide) rfl rfl (by decide) (by decide) (by decide) (by decide) (by decide) (by decide) rfl
  have e : doneX sm smC = (smR, 0) := by
    unfold doneX
    rw [show remFM sm smC.node smC.parent smC.index = smR from rfl, if_pos (by rw [dec_true]; exact smR_right)]
  rw [e] at this
  exact this
theorem sm_apply : PureC Tryz.prog 50 [fav sm, smC.av] (.tup [fav smR, iav 0]) := apply_c sm smR smC 0 sm_fit sm_right sm_done
theorem in1 : inR sm 1 := ⟨by decide, by decide⟩
theorem in4 : inR sm 4 := ⟨by decide, by decide⟩
theorem sm_all : PureC Tryz.prog 12 [fav sm, .imm (.sl ([smC].map Change.iv))] (.tup [fav smR, iav 1, iav 0]) := all_c sm smR [smC] sm_fit sm_right (by decide) (by decide) ⟨smR, sm_done, rfl⟩
theorem sm_adj : PureC Tryz.prog 42 [fav sm, smr.av, smC.av] (.tup [(⟨⟨2, 0⟩, ⟨4, 1⟩⟩ : Rng).av, iav 0]) := by
  have := adjust_c sm smR smC smr sm_fit sm_right rfl (sm_fg _ _ (by simp) (by simp)) sm_all sm_apply
  have e : movG sm smC smr = ⟨⟨2, 0⟩, ⟨4, 1⟩⟩ := by
    unfold movG movR
    rw [show smC.node = 3 from rfl, show smr.s.n = 3 from rfl, show smr.e.n = 4 from rfl, up3, up4, if_pos (by rw [dec_true]; decide), if_neg (by rw [dec_true]; decide), if_neg (by decide)]
    rfl
  rw [e] at this
  exact this
theorem sm_start : PureC Tryz.prog 18 [fav sm, smr.av, (⟨1, 9⟩ : Bnd).av] (.tup [r0.av, iav 14]) := by
  have := start_c sm smr ⟨1, 9⟩ sm_fit
  have e : setW sm smr ⟨1, 9⟩ = 14 := by
    unfold setW
    rw [sm_fg _ _ (by simp) (by simpa using in1), if_neg (by omega), if_neg (by decide), faultB_in sm_right (by simpa using in1), if_neg (by
      rw [dec_true]
      intro h
      have := (h ⟨1, 9⟩ (by simp)).2
      rw [show (⟨1, 9⟩ : Bnd).n = 1 from rfl, len1] at this
      exact absurd this (by decide))]
  have e2 : setV sm true smr ⟨1, 9⟩ = r0 := by unfold setV; rw [e, if_pos (by decide)]
  rw [e, e2] at this
  exact this
theorem sm_cmp : PureC Tryz.prog 17 [fav sm, iav 4, smr.av, smr.av] (.tup [iav 0, iav 17]) := by
  have := compare_c sm 4 smr smr sm_fit
  have e : cmpG sm 4 smr smr = (0, 17) := by
    unfold cmpG
    rw [sm_fg _ _ (by simp) (by simp), if_neg (by omega), if_pos (by omega)]
  rw [e] at this
  exact this
theorem sm_sel : PureC Tryz.prog 31 [fav sm, smr.av, iav 4] (.tup [(⟨⟨2, 1⟩, ⟨2, 2⟩⟩ : Rng).av, iav 0]) := by
  have := select_c sm smr 4 sm_fit
  have e : selW sm smr 4 = 0 := by
    unfold selW
    rw [sm_fg _ _ (by simp) (by simpa using in4), if_neg (by omega), if_neg (by decide)]
  have e2 : selV sm smr 4 = ⟨⟨2, 1⟩, ⟨2, 2⟩⟩ := by
    unfold selV
    rw [e, if_neg (by decide)]
    rfl
  rw [e, e2] at this
  exact this
theorem begins_true : PureC Tryz.prog 11 [] (bav true) := by
  have cR := rRight_c sm sm_fit
  rw [show dec (rightP sm) = true by rw [dec_true]; exact sm_right] at cR
  have h1 := sm_c
  have h2 := sm_adj
  have h3 := sm_start
  have h4 := sm_cmp
  have h5 := sm_sel
  refine PureC.mk tabs Tryz.func11 73 [.tmp 0] rfl rfl rfl rfl rfl ?_; intro w0 X
  (repeat' (first | ((with_reducible show AL _ _ _ _ _); first | (refine AL.step tabs rfl ?_; try dsimp only [len, List.nil_append, List.cons_append]) | refine AL.op rfl (OpOK.call rfl rfl rfl rfl h1 rfl) ?_ | refine AL.op rfl (OpOK.call rfl rfl rfl rfl cR rfl) ?_ | refine AL.op rfl (OpOK.callcv rfl rfl rfl rfl rfl h2 rfl) ?_ | refine AL.op rfl (OpOK.call rfl rfl rfl rfl h3 rfl) ?_ | refine AL.op rfl (OpOK.call rfl rfl rfl rfl h4 rfl) ?_ | refine AL.op rfl (OpOK.call rfl rfl rfl rfl h5 rfl) ?_ | refine AL.nil ?_ | (refine AL.gsplitE rfl rfl rfl (fun hc => ?_) (fun hc => ?_) <;> (fail_if_success (exact absurd hc (by decide))) <;> (try simp only [hsx] at hc) <;> (try first | (exfalso; omega) | contradiction | (exfalso; simp [dec_eq] at hc; done))) | (refine AL.op rfl (OpOK.eqs rfl rfl rfl rfl eqt41 rfl rfl) ?_)) | (exfalso; omega) | refine AW.seq ?_ | refine AW.region ?_ | refine Then.norm ?_ | refine AW.skip ?_ | refine AW.condT rfl ?_ | refine AW.condF rfl ?_ | (refine AW.cond rfl (fun hc => ?_) (fun hc => ?_) <;> (try simp only [hsx] at hc) <;> (try first | (exfalso; omega) | contradiction | (exfalso; simp [dec_eq] at hc; done))) | refine AW.ret ?_ | refine Then.ret ?_))
  all_goals first
    | exact RQ.fin rfl rfl rfl
    | (refine RQ.fin rfl rfl (congrArg bav ?_); simp [dec_eq]; done)
    | (exfalso; simp_all [dec_eq]; done)
    | (trace_state; sorry)
end Go.Proofs.YtjjdabihnmilgaaGreat.A
namespace Go.Proofs.YtjjdabihnmilgaaGreat.A
open Go.RowKit
set_option linter.unusedVariables false
set_option linter.unusedSimpArgs false
set_option maxRecDepth 100000
set_option maxHeartbeats 4000000
theorem data_kids {f : List Node} (hr : rightP f) {a : Int} (ha : inR f a) (ht : dataB (nodeAt f a).kind) : (nodeAt f a).kids = [] := by
  obtain ⟨hm, _, _⟩ := right_node hr ha
  rcases hm.2.2.1.2.2 with h | h
  · exfalso
    rcases ht with (e | e) | e | e <;> rw [e] at h <;> exact absurd h (by decide)
  · exact List.eq_nil_of_length_eq_zero (by omega)
theorem idxGo_at : ∀ (l : List Int) (k : Int) (j : Nat), l.Nodup → j < l.length → idxGo l (l.getD j default) k = k + j
  | [], _, _, _, h => absurd h (Nat.not_lt_zero _)
  | y :: l, k, 0, _, _ => by
    simp only [List.getD_cons_zero]
    unfold idxGo
    rw [if_pos rfl]; simp
  | y :: l, k, j + 1, hn, h => by
    rw [List.nodup_cons] at hn
    have h' : j < l.length := by simpa using h
    have hm : l.getD j default ∈ l := by
      rw [List.getD_eq_getElem?_getD, List.getElem?_eq_getElem h']
      exact List.getElem_mem h'
    simp only [List.getD_cons_succ]
    unfold idxGo
    have hne : ¬ l.getD j default = y := fun e => hn.1 (e ▸ hm)
    rw [if_neg hne, idxGo_at l (k + 1) j hn.2 h']
    omega
theorem idx_at {l : List Int} (hn : l.Nodup) {j : Int} (h0 : 0 ≤ j) (h1 : j < l.length) : idx l (atI l j) = j := by
  have := idxGo_at l 0 j.toNat hn (by omega)
  unfold idx atI
  rw [this]
  omega
/-- Where a node stands is a point of its parent, and so is the next one. -/
theorem place_pt {f : List Node} (hr : rightP f) {h : Int} (hh : inR f h) (hp : (nodeAt f h).parent ≠ 0) {o : Int} (h0 : 0 ≤ o) (h1 : o ≤ 1) : ptOK f ⟨(nodeAt f h).parent, placeP f h + o⟩ := by
  obtain ⟨k1, k2, _⟩ := parent_up hr hh hp
  obtain ⟨j, j0, j1, e⟩ := mem_atI k2
  have hi : placeP f h = j := by
    unfold placeP
    have := idx_at (right_dup hr k1) j0 j1
    rw [e] at this
    rw [this]
    omega
  have hd : ¬ dataB (nodeAt f (nodeAt f h).parent).kind := fun hd => by
    rw [data_kids hr k1 hd] at k2
    cases k2
  refine ⟨k1, ?_, ?_⟩
  · show 0 ≤ placeP f h + o
    omega
  · show placeP f h + o ≤ lenP f (nodeAt f h).parent
    unfold lenP
    rw [if_neg (by rw [dec_true]; exact hd), hi]
    omega
theorem setV_ok {f : List Node} {start : Bool} {r : Rng} {b : Bnd} (h : setW f r b = 0) : rightP f ∧ rngOK f (setV f start r b) ∧ setV f start r b = putV f start r b := by
  have e : setV f start r b = putV f start r b := by unfold setV; rw [if_neg (by omega)]
  unfold setW at h
  split at h
  · rename_i h1; exact absurd h h1
  · rename_i h1
    obtain ⟨hr, _, _⟩ := faultG_zero.1 (Classical.not_not.1 h1)
    split at h
    · cases h
    · obtain ⟨_, h3, _⟩ := faultB_zero h
      exact ⟨hr, by rw [e]; exact putV_ok (h3 b (by simp)), e⟩
theorem besV_ok {f : List Node} {start : Bool} {r : Rng} {side h : Int} (hs : 0 ≤ side) (hw : besW f r side h = 0) : rightP f ∧ rngOK f (besV f start r side h) := by
  have e : besV f start r side h = putV f start r ⟨(nodeAt f h).parent, placeP f h + side⟩ := by unfold besV; rw [if_neg (by omega)]
  unfold besW at hw
  split at hw
  · rename_i h1; exact absurd hw h1
  · rename_i h1
    obtain ⟨hr, _, h3⟩ := faultG_zero.1 (Classical.not_not.1 h1)
    split at hw
    · cases hw
    · split at hw
      · cases hw
      · rename_i h4 h5
        exact ⟨hr, by rw [e]; exact putV_ok (place_pt hr (h3 h (by simp)) h5 hs (by omega))⟩
theorem selV_ok {f : List Node} {r : Rng} {h : Int} (hw : selW f r h = 0) : rightP f ∧ rngOK f (selV f r h) := by
  have e : selV f r h = ⟨⟨(nodeAt f h).parent, placeP f h⟩, ⟨(nodeAt f h).parent, placeP f h + 1⟩⟩ := by unfold selV; rw [if_neg (by omega)]
  unfold selW at hw
  split at hw
  · rename_i h1; exact absurd hw h1
  · rename_i h1
    obtain ⟨hr, _, h3⟩ := faultG_zero.1 (Classical.not_not.1 h1)
    split at hw
    · cases hw
    · rename_i h5
      have p1 := place_pt hr (h3 h (by simp)) h5 (o := 0) (by omega) (by omega)
      have p2 := place_pt hr (h3 h (by simp)) h5 (o := 1) (by omega) (by omega)
      rw [Int.add_zero] at p1
      refine ⟨hr, ?_⟩
      rw [e]
      refine ⟨p1, p2, rfl, ?_⟩
      show posP f ⟨(nodeAt f h).parent, placeP f h⟩ ⟨(nodeAt f h).parent, placeP f h + 1⟩ ≤ 0
      unfold posP
      rw [if_neg (fun h => by have := h.2; simp only at this; omega), if_pos ⟨rfl, by simp only; omega⟩]
      omega
theorem conV_ok {f : List Node} {r : Rng} {h : Int} (hf : Fit f) (hw : conW f r h = 0) : rightP f ∧ rngOK f (conV f r h) := by
  have e : conV f r h = ⟨⟨h, 0⟩, ⟨h, lenP f h⟩⟩ := by unfold conV; rw [if_neg (by omega)]
  have hz := lenP_small hf h
  unfold conW at hw
  split at hw
  · rename_i h1; exact absurd hw h1
  · rename_i h1
    obtain ⟨hr, _, h3⟩ := faultG_zero.1 (Classical.not_not.1 h1)
    have hin := h3 h (by simp)
    have hw' : True := trivial
    refine ⟨hr, ?_⟩
    rw [e]
    refine ⟨⟨hin, by simp, hz.1⟩, ⟨hin, hz.1, Int.le_refl _⟩, rfl, ?_⟩
    show posP f ⟨h, 0⟩ ⟨h, lenP f h⟩ ≤ 0
    unfold posP
    by_cases e0 : (0 : Int) = lenP f h
    · rw [if_pos ⟨rfl, e0⟩]; omega
    · rw [if_neg (fun h => e0 h.2), if_pos ⟨rfl, by simp only; omega⟩]; omega
theorem lvalid_c (f : List Node) (q : Rng) (hf : Fit f) (hr : rightP f) (h : rngOK f q) : PureC Tryz.prog 35 [fav f, q.av] (bav true) := by
  have c1 := bvalid_c f q hf
  have e1 : validR f q = true := by rw [validR_ok hr h.1.1 h.2.1.1 h.1.2 h.2.1.2, dec_true]; exact h.2.2
  have e2 : faultB f [q.s, q.e] [] = 0 := by
    rw [faultB_in hr (by simp [h.1.1, h.2.1.1]), if_pos (by rw [dec_true]; intro x hx; simp only [List.mem_cons, List.not_mem_nil, or_false] at hx; rcases hx with rfl | rfl; exact h.1.2; exact h.2.1.2)]
  rw [e1, e2] at c1
  refine PureC.mk tabs Tryz.func35 18 [.tmp 4] rfl rfl rfl rfl rfl ?_; intro w0 X
  (repeat' (first | ((with_reducible show AL _ _ _ _ _); first | (refine AL.step tabs rfl ?_; try dsimp only [len, List.nil_append, List.cons_append]) | refine AL.op rfl (OpOK.call rfl rfl rfl rfl c1 rfl) ?_ | refine AL.nil ?_ | (refine AL.gsplitE rfl rfl rfl (fun hc => ?_) (fun hc => ?_) <;> (fail_if_success (exact absurd hc (by decide))) <;> (try simp only [hsx] at hc) <;> (try first | (exfalso; omega) | contradiction | (exfalso; simp [dec_eq] at hc; done)))) | (exfalso; omega) | refine AW.seq ?_ | refine AW.region ?_ | refine Then.norm ?_ | refine AW.skip ?_ | refine AW.ret ?_ | refine Then.ret ?_))
  all_goals first
    | exact RQ.fin rfl rfl rfl
    | (trace_state; sorry)
theorem rvalid_c (f : List Node) (r : Rng) (b : Bnd) (side h : Int) (hf : Fit f) (hs0 : 0 ≤ side) (hs1 : side < 256) : PureC Tryz.prog 9 [fav f, r.av, b.av, u8v side, iav h] (bav true) := by
  have hb := begins_true
  have c1 := start_c f r b hf
  have c2 := end_rc f r b hf
  have c3 := sbeside_c f r side h hf hs0 hs1
  have c4 := ebeside_c f r side h hf hs0 hs1
  have c5 := select_c f r h hf
  have c6 := contents_c f r h hf
  have v1 : setW f r b = 0 → PureC Tryz.prog 35 [fav f, (setV f true r b).av] (bav true) ∧ (setV f true r b).s = b := fun e => by
    obtain ⟨a1, a2, a3⟩ := setV_ok (start := true) e
    exact ⟨lvalid_c f _ hf a1 a2, by rw [a3]; exact putV_s⟩
  have v2 : setW f r b = 0 → PureC Tryz.prog 35 [fav f, (setV f false r b).av] (bav true) ∧ (setV f false r b).e = b := fun e => by
    obtain ⟨a1, a2, a3⟩ := setV_ok (start := false) e
    exact ⟨lvalid_c f _ hf a1 a2, by rw [a3]; exact putV_e⟩
  have v3 : besW f r side h = 0 → PureC Tryz.prog 35 [fav f, (besV f true r side h).av] (bav true) := fun e => by
    obtain ⟨a1, a2⟩ := besV_ok (start := true) hs0 e
    exact lvalid_c f _ hf a1 a2
  have v4 : besW f r side h = 0 → PureC Tryz.prog 35 [fav f, (besV f false r side h).av] (bav true) := fun e => by
    obtain ⟨a1, a2⟩ := besV_ok (start := false) hs0 e
    exact lvalid_c f _ hf a1 a2
  have v5 : selW f r h = 0 → PureC Tryz.prog 35 [fav f, (selV f r h).av] (bav true) := fun e => by
    obtain ⟨a1, a2⟩ := selV_ok e
    exact lvalid_c f _ hf a1 a2
  have v6 : conW f r h = 0 → PureC Tryz.prog 35 [fav f, (conV f r h).av] (bav true) := fun e => by
    obtain ⟨a1, a2⟩ := conV_ok hf e
    exact lvalid_c f _ hf a1 a2
  generalize setV f true r b = q1 at *
  generalize setV f false r b = q2 at *
  generalize besV f true r side h = q3 at *
  generalize besV f false r side h = q4 at *
  generalize selV f r h = q5 at *
  generalize conV f r h = q6 at *
  generalize setW f r b = w1 at *
  generalize besW f r side h = w3 at *
  generalize selW f r h = w5 at *
  generalize conW f r h = w6 at *
  by_cases h1 : w1 = 0
  · obtain ⟨u1, e1⟩ := v1 h1
    obtain ⟨u2, e2⟩ := v2 h1
    clear v1 v2
    obtain ⟨⟨a1, a2⟩, ⟨a3, a4⟩⟩ := q1
    obtain ⟨⟨d1, d2⟩, ⟨d3, d4⟩⟩ := q2
    obtain ⟨b1, b2⟩ := b
    simp only at e1 e2
    cases e1
    cases e2
    subst h1
    refine PureC.mk tabs Tryz.func9 118 [.tmp 10] rfl rfl rfl rfl rfl ?_; intro w0 X
    (repeat' (first | ((with_reducible show AL _ _ _ _ _); first | (refine AL.step tabs rfl ?_; try dsimp only [len, List.nil_append, List.cons_append]) | refine AL.op rfl (OpOK.call rfl rfl rfl rfl hb rfl) ?_ | refine AL.op rfl (OpOK.call rfl rfl rfl rfl c1 rfl) ?_ | refine AL.op rfl (OpOK.call rfl rfl rfl rfl c2 rfl) ?_ | refine AL.op rfl (OpOK.call rfl rfl rfl rfl c3 rfl) ?_ | refine AL.op rfl (OpOK.call rfl rfl rfl rfl c4 rfl) ?_ | refine AL.op rfl (OpOK.call rfl rfl rfl rfl c5 rfl) ?_ | refine AL.op rfl (OpOK.call rfl rfl rfl rfl c6 rfl) ?_ | refine AL.op rfl (OpOK.call rfl rfl rfl rfl u1 rfl) ?_ | refine AL.op rfl (OpOK.call rfl rfl rfl rfl u2 rfl) ?_ | refine AL.op rfl (OpOK.call rfl rfl rfl rfl (v3 (by omega)) rfl) ?_ | refine AL.op rfl (OpOK.call rfl rfl rfl rfl (v4 (by omega)) rfl) ?_ | refine AL.op rfl (OpOK.call rfl rfl rfl rfl (v5 (by omega)) rfl) ?_ | refine AL.op rfl (OpOK.call rfl rfl rfl rfl (v6 (by omega)) rfl) ?_ | refine AL.nil ?_ | (refine AL.gsplitE rfl rfl rfl (fun hc => ?_) (fun hc => ?_) <;> (fail_if_success (exact absurd hc (by decide))) <;> (try simp only [hsx] at hc) <;> (try first | (exfalso; omega) | contradiction | (exfalso; simp [dec_eq] at hc; done))) | (refine AL.op rfl (OpOK.eqs rfl rfl rfl rfl eqt39 rfl rfl) ?_)) | (exfalso; omega) | refine AW.seq ?_ | refine AW.region ?_ | refine Then.norm ?_ | refine AW.skip ?_ | refine AW.condT rfl ?_ | refine AW.condF rfl ?_ | (refine AW.cond rfl (fun hc => ?_) (fun hc => ?_) <;> (try simp only [hsx] at hc) <;> (try first | (exfalso; omega) | contradiction | (exfalso; simp [dec_eq] at hc; done))) | refine AW.ret ?_ | refine Then.ret ?_))
    all_goals first
      | exact RQ.fin rfl rfl rfl
      | (exfalso; simp_all [dec_eq]; done)
      | (refine RQ.fin rfl rfl (congrArg bav ?_); simp_all [dec_eq]; done)
      | (trace_state; sorry)
  · refine PureC.mk tabs Tryz.func9 118 [.tmp 10] rfl rfl rfl rfl rfl ?_; intro w0 X
    (repeat' (first | ((with_reducible show AL _ _ _ _ _); first | (refine AL.step tabs rfl ?_; try dsimp only [len, List.nil_append, List.cons_append]) | refine AL.op rfl (OpOK.call rfl rfl rfl rfl hb rfl) ?_ | refine AL.op rfl (OpOK.call rfl rfl rfl rfl c1 rfl) ?_ | refine AL.op rfl (OpOK.call rfl rfl rfl rfl c2 rfl) ?_ | refine AL.op rfl (OpOK.call rfl rfl rfl rfl c3 rfl) ?_ | refine AL.op rfl (OpOK.call rfl rfl rfl rfl c4 rfl) ?_ | refine AL.op rfl (OpOK.call rfl rfl rfl rfl c5 rfl) ?_ | refine AL.op rfl (OpOK.call rfl rfl rfl rfl c6 rfl) ?_ | refine AL.op rfl (OpOK.call rfl rfl rfl rfl (v3 (by omega)) rfl) ?_ | refine AL.op rfl (OpOK.call rfl rfl rfl rfl (v4 (by omega)) rfl) ?_ | refine AL.op rfl (OpOK.call rfl rfl rfl rfl (v5 (by omega)) rfl) ?_ | refine AL.op rfl (OpOK.call rfl rfl rfl rfl (v6 (by omega)) rfl) ?_ | refine AL.nil ?_ | (refine AL.gsplitE rfl rfl rfl (fun hc => ?_) (fun hc => ?_) <;> (fail_if_success (exact absurd hc (by decide))) <;> (try simp only [hsx] at hc) <;> (try first | (exfalso; omega) | contradiction | (exfalso; simp [dec_eq] at hc; done))) | (refine AL.op rfl (OpOK.eqs rfl rfl rfl rfl eqt39 rfl rfl) ?_)) | (exfalso; omega) | refine AW.seq ?_ | refine AW.region ?_ | refine Then.norm ?_ | refine AW.skip ?_ | refine AW.condT rfl ?_ | refine AW.condF rfl ?_ | (refine AW.cond rfl (fun hc => ?_) (fun hc => ?_) <;> (try simp only [hsx] at hc) <;> (try first | (exfalso; omega) | contradiction | (exfalso; simp [dec_eq] at hc; done))) | refine AW.ret ?_ | refine Then.ret ?_))
    all_goals first
      | exact RQ.fin rfl rfl rfl
      | (exfalso; simp_all [dec_eq]; done)
      | (refine RQ.fin rfl rfl (congrArg bav ?_); simp_all [dec_eq]; done)
      | (trace_state; sorry)
end Go.Proofs.YtjjdabihnmilgaaGreat.A
namespace Go.Proofs.YtjjdabihnmilgaaGreat.A
open Go.RowKit
set_option linter.unusedVariables false
set_option linter.unusedSimpArgs false
variable {P : Program} {α β : Type}
def noX : Nat → Prop := fun _ => False
theorem bulk_part {H : Type} {d : DataW H} {l : List (DataW H)} (h : d ∈ l) : Rows.uptoBulk d ≤ Rows.uptoBulkAll l := by
  induction l with
  | nil => cases h
  | cons x r ih =>
    simp only [Rows.uptoBulkAll]
    cases List.mem_cons.1 h with
    | inl e => subst e; omega
    | inr e => have := ih e; omega
theorem bulk_pos {H : Type} (d : DataW H) : 1 ≤ Rows.uptoBulk d := by
  cases d with
  | lit l => cases l <;> simp [Rows.uptoBulk]
  | nil => simp [Rows.uptoBulk]
  | ptr d => simp [Rows.uptoBulk]
  | slice elems spare => simp [Rows.uptoBulk]
  | agg parts => simp [Rows.uptoBulk]
  | iface t d => simp [Rows.uptoBulk]
  | map entries => simp [Rows.uptoBulk]
  | held h => simp [Rows.uptoBulk]
theorem bulk_length {H : Type} (l : List (DataW H)) : l.length ≤ Rows.uptoBulkAll l := by
  induction l with
  | nil => simp [Rows.uptoBulkAll]
  | cons x r ih => have := bulk_pos x; simp only [Rows.uptoBulkAll, List.length_cons]; omega
/-- type t's data reads as some a, which is rd a in cells; a fits: Fit, of a and the data's bulk. -/
structure Opens (P : Program) (t : TypeId) (rd : α → List IV) (sz : Nat) (Fit : α → Nat → Prop) : Prop where
  len : ∀ a, (rd a).length = sz
  get : ∀ {H : Type} {enc : TypeId × Value → H} {w : World} {spare : Nat → Bool} {held : Bool} {fuel : Nat} {cs : List Value} {x : DataW H × List MemPlace},
    DataW.trod enc P w 0 spare held fuel t cs = some x → ∃ a : α, All2 (RepI w noX) (rd a) cs ∧ Fit a (Rows.uptoBulk x.1)
  mono : ∀ {a : α} {b b' : Nat}, b ≤ b' → Fit a b → Fit a b'
theorem Opens.int {t : TypeId} {k : IntKind} (ht : P.underlying t = some (.int k)) : Opens P t (fun n : Int => [.int k n]) 1 (fun _ _ => True) where
  len := fun _ => rfl
  mono := fun _ h => h
  get := by
    intro H enc w spare held fuel cs x h
    obtain ⟨n, rfl, rfl, hw⟩ := DataW.trod_int ht h
    exact ⟨n, .cons (.int _ _) .nil, trivial⟩
theorem Opens.bool {t : TypeId} (ht : P.underlying t = some .bool) : Opens P t (fun b : Bool => [.bool b]) 1 (fun _ _ => True) where
  len := fun _ => rfl
  mono := fun _ h => h
  get := by
    intro H enc w spare held fuel cs x h
    obtain ⟨n, rfl, rfl⟩ := DataW.trod_bool ht h
    exact ⟨n, .cons (.bool _) .nil, trivial⟩
theorem Opens.string {t : TypeId} (ht : P.underlying t = some .string) : Opens P t (fun s : ByteArray => [.str s]) 1 (fun _ _ => True) where
  len := fun _ => rfl
  mono := fun _ h => h
  get := by
    intro H enc w spare held fuel cs x h
    obtain ⟨n, rfl, rfl, hw⟩ := DataW.trod_string ht h
    exact ⟨n, .cons (.str _) .nil, trivial⟩
theorem pick_list {Q : Nat → α → Prop} : ∀ n : Nat, (∀ i, i < n → ∃ p, Q i p) → ∃ xs : List α, xs.length = n ∧ ∀ i p, xs[i]? = some p → Q i p
  | 0, _ => ⟨[], rfl, fun i p h => by simp at h⟩
  | n + 1, h => by
    obtain ⟨xs, hl, hq⟩ := pick_list n (fun i hi => h i (by omega))
    obtain ⟨p, hp⟩ := h n (by omega)
    refine ⟨xs ++ [p], by simp [hl], fun i q hi => ?_⟩
    by_cases e : i < xs.length
    · rw [List.getElem?_append_left e] at hi
      exact hq i q hi
    · have hlt := (List.getElem?_eq_some_iff.1 hi).1
      simp [hl] at hlt
      obtain rfl : i = n := by omega
      rw [List.getElem?_append_right (by omega), hl, Nat.sub_self] at hi
      simp at hi
      subst hi
      exact hp
theorem all2_pairs {R : IV → Value → Prop} {rd : α → List IV} : ∀ {l : List (α × List Value)}, (∀ p ∈ l, All2 R (rd p.1) p.2) → All2 R ((l.map Prod.fst).map rd).flatten (l.map Prod.snd).flatten
  | [], _ => .nil
  | p :: r, h => by
    simp only [List.map_cons, List.flatten_cons]
    exact (h p (by simp)).append (all2_pairs fun q hq => h q (by simp [hq]))
theorem add_addA (a : Addr) (i j : Nat) : (a.add i).add j = a.add (i + j) := by
  unfold Addr.add
  by_cases hi : i = 0
  · subst hi; simp
  · by_cases hj : j = 0
    · subst hj; simp
    · simp [hi, hj, Nat.add_assoc]
theorem Opens.slice {t e : TypeId} {rd : α → List IV} {sz : Nat} {Fit : α → Nat → Prop} (ht : P.underlying t = some (.slice e)) (hc : P.cellsOf e = sz) (hsz : 0 < sz) (he : Opens P e rd sz Fit) :
    Opens P t (fun xs : List α => [.sl (xs.map rd)]) 1 (fun xs b => xs.length < b ∧ ∀ x ∈ xs, Fit x b) where
  len := fun _ => rfl
  mono := fun h h2 => ⟨Nat.lt_of_lt_of_le h2.1 h, fun x hx => he.mono h (h2.2 x hx)⟩
  get := by
    intro H enc w spare held fuel cs x h
    rcases DataW.trod_slice ht h with ⟨rfl, rfl⟩ | ⟨a, len, cap, elems, rest, n, _, rfl, rfl, hb, hl, hm, hlen, hel, _, _⟩
    · exact ⟨[], .cons (.nil _ _) .nil, by simp [Rows.uptoBulk]⟩
    · have each : ∀ i : Nat, i < len → ∃ p : α × List Value, All2 (RepI w noX) (rd p.1) p.2 ∧ p.2.length = sz ∧ (∀ j u, p.2[j]? = some u → w.cell? (a.add (i * sz + j)) = some u) ∧ ∃ y : DataW H × List MemPlace, elems[i]? = some y ∧ Fit p.1 (Rows.uptoBulk y.1) := by
        intro i hi
        have h1 := hel i hi
        obtain ⟨y, hy⟩ : ∃ y, elems[i]? = some y := ⟨_, List.getElem?_eq_getElem (by omega)⟩
        rw [hy, hc] at h1
        obtain ⟨c, hcs, htr⟩ := Option.bind_eq_some_iff.1 h1
        obtain ⟨p, hK, hF⟩ := he.get htr
        have hcl : c.length = sz := by rw [← hK.length, he.len]
        refine ⟨(p, c), hK, hcl, fun j u hj => ?_, y, hy, hF⟩
        unfold World.cells? at hcs
        rw [if_pos (Nat.zero_le _)] at hcs
        have hj2 : j < sz := by
          have := (List.getElem?_eq_some_iff.1 hj).1
          rw [← hcl]
          exact this
        have := mapM_some_get hcs j j (List.getElem?_range hj2)
        rw [← add_addA, this, hj]
      obtain ⟨xs, hxl, hxq⟩ := pick_list len each
      have hall : ∀ p ∈ xs, ∃ i, xs[i]? = some p := fun p hp => by
        obtain ⟨j, hj, rfl⟩ := List.getElem_of_mem hp
        exact ⟨j, List.getElem?_eq_getElem hj⟩
      refine ⟨xs.map Prod.fst, .cons ?_ .nil, ?_, ?_⟩
      · by_cases h0 : xs = []
        · subst h0
          simp at hxl
          subst hxl
          exact .nil _ _
        · have hr2 : ∀ r ∈ xs.map Prod.snd, r.length = sz := by
            intro r hr
            obtain ⟨p, hp, rfl⟩ := List.mem_map.1 hr
            obtain ⟨i, hi⟩ := hall p hp
            exact (hxq i p hi).2.1
          refine .sl _ a len cap sz (xs.map Prod.snd).flatten (by simpa using h0) hsz (by simp [hxl]) hl (fun h => h) ?_ ?_ (all2_pairs fun p hp => ?_)
          · intro r hr
            obtain ⟨p, _, rfl⟩ := List.mem_map.1 hr
            exact he.len p
          · intro k u hk
            have hk2 := (List.getElem?_eq_some_iff.1 hk).1
            rw [flat_len hr2] at hk2
            have hdm : k = k / sz * sz + k % sz := by rw [Nat.mul_comm]; exact (Nat.div_add_mod k sz).symm
            have hlt : k / sz < (xs.map Prod.snd).length := (Nat.div_lt_iff_lt_mul hsz).2 hk2
            obtain ⟨r, hr⟩ : ∃ r, (xs.map Prod.snd)[k / sz]? = some r := ⟨_, List.getElem?_eq_getElem hlt⟩
            have hg := flat_get hr2 hr (Nat.mod_lt k hsz)
            rw [← hdm, hk] at hg
            rw [List.getElem?_map] at hr
            obtain ⟨p, hp, rfl⟩ := Option.map_eq_some_iff.1 hr
            have := (hxq _ p hp).2.2.1 _ u hg.symm
            rw [← hdm] at this
            exact this
          · obtain ⟨i, hi⟩ := hall p hp
            exact (hxq i p hi).1
      · have h1 := bulk_length (elems.map (·.1))
        simp [Rows.uptoBulk] at h1 ⊢
        omega
      · intro p hp
        obtain ⟨q, hq, rfl⟩ := List.mem_map.1 hp
        obtain ⟨i, hi⟩ := hall q hq
        obtain ⟨_, _, _, y, hy, hF⟩ := hxq i q hi
        refine he.mono ?_ hF
        have hm : y.1 ∈ elems.map (·.1) := List.mem_map_of_mem (List.mem_of_getElem? hy)
        have := bulk_part hm
        simp only [Rows.uptoBulk]
        omega
/-- fields in line, from cell o on -/
structure OpensF (P : Program) (fs : List Field) (o : Nat) (rd : α → List IV) (sz : Nat) (Fit : α → Nat → Prop) : Prop where
  len : ∀ a, (rd a).length = sz
  get : ∀ {H : Type} {enc : TypeId × Value → H} {w : World} {spare : Nat → Bool} {held : Bool} {fuel : Nat} {cs : List Value} {xs : List (DataW H × List MemPlace)}, cs.length = o + sz →
    (fs.mapM fun f => DataW.trod enc P w 0 spare held fuel f.type ((cs.drop f.offset).take (P.cellsOf f.type))) = some xs → ∃ a : α, All2 (RepI w noX) (rd a) (cs.drop o) ∧ Fit a (Rows.uptoBulkAll (xs.map (·.1)))
  mono : ∀ {a : α} {b b' : Nat}, b ≤ b' → Fit a b → Fit a b'
theorem OpensF.one {f : Field} {o : Nat} {rd : α → List IV} {sz : Nat} {Fit : α → Nat → Prop} (h : Opens P f.type rd sz Fit) (ho : f.offset = o) (hc : P.cellsOf f.type = sz) : OpensF P [f] o rd sz Fit where
  len := h.len
  mono := h.mono
  get := by
    intro H enc w spare held fuel cs xs hl hx
    have h0 := mapM_some_get hx 0 f rfl
    have hlen := mapM_some_length hx
    obtain ⟨y, rfl⟩ : ∃ y, xs = [y] := by
      match xs, hlen with
      | [y], _ => exact ⟨y, rfl⟩
    simp at h0
    rw [ho, hc, List.take_of_length_le (by simp; omega)] at h0
    obtain ⟨a, hK, hF⟩ := h.get h0
    exact ⟨a, hK, h.mono (by simp [Rows.uptoBulkAll]) hF⟩
theorem OpensF.cons {f : Field} {fs : List Field} {o : Nat} {rd : α → List IV} {rd2 : β → List IV} {sz sz2 : Nat} {Fit : α → Nat → Prop} {Fit2 : β → Nat → Prop} (h : Opens P f.type rd sz Fit) (ho : f.offset = o) (hc : P.cellsOf f.type = sz) (h2 : OpensF P fs (o + sz) rd2 sz2 Fit2) :
    OpensF P (f :: fs) o (fun p : α × β => rd p.1 ++ rd2 p.2) (sz + sz2) (fun x b => Fit x.1 b ∧ Fit2 x.2 b) where
  len := fun p => by rw [List.length_append, h.len, h2.len]
  mono := fun hb hf => ⟨h.mono hb hf.1, h2.mono hb hf.2⟩
  get := by
    intro H enc w spare held fuel cs xs hl hx
    have hlen := mapM_some_length hx
    obtain ⟨y, ys, rfl⟩ : ∃ y ys, xs = y :: ys := by
      match xs, hlen with
      | y :: ys, _ => exact ⟨y, ys, rfl⟩
    have h0 := mapM_some_get hx 0 f rfl
    simp at h0
    rw [ho, hc] at h0
    obtain ⟨a, hK, hF⟩ := h.get h0
    have hx2 : (fs.mapM fun f => DataW.trod enc P w 0 spare held fuel f.type ((cs.drop f.offset).take (P.cellsOf f.type))) = some ys := by
      simp only [List.mapM_cons, Option.bind_eq_bind, Option.bind_eq_some_iff] at hx
      obtain ⟨y', hy', ys', hys, he⟩ := hx
      simp at he
      rw [hys, he.2]
    obtain ⟨b, hK2, hF2⟩ := h2.get (by rw [hl]; omega) hx2
    refine ⟨(a, b), ?_, h.mono (by simp [Rows.uptoBulkAll]) hF, h2.mono (by simp [Rows.uptoBulkAll]) hF2⟩
    have := hK.append hK2
    rw [← List.drop_drop, List.take_append_drop] at this
    exact this
theorem Opens.struct {t : TypeId} {fs : Array Field} {rd : α → List IV} {sz : Nat} {Fit : α → Nat → Prop} (ht : P.underlying t = some (.struct fs)) (hf : OpensF P fs.toList 0 rd sz Fit) (hc : P.cellsOf t = sz) : Opens P t rd sz Fit where
  len := hf.len
  mono := fun hb h => hf.mono hb h
  get := by
    intro H enc w spare held fuel cs x h
    cases fuel with
    | zero => simp [DataW.trod] at h
    | succ n =>
      unfold DataW.trod at h
      rw [ht] at h
      simp only at h
      split at h
      · rename_i hl
        obtain ⟨xs, hxs, rfl⟩ := Option.map_eq_some_iff.1 h
        obtain ⟨a, hK, hF⟩ := hf.get (by rw [hl, hc]; omega) hxs
        refine ⟨a, by simpa using hK, hf.mono (by simp [Rows.uptoBulk]) hF⟩
      · cases h
theorem Opens.iso {t : TypeId} {rd : α → List IV} {rd' : β → List IV} {sz : Nat} {Fit : α → Nat → Prop} {Fit' : β → Nat → Prop} (h : Opens P t rd sz Fit) (g : α → β) (hr : ∀ a, rd' (g a) = rd a) (gi : β → α) (hg : ∀ b, g (gi b) = b) (hf : ∀ a b, Fit a b → Fit' (g a) b) (hm : ∀ {a : β} {b b' : Nat}, b ≤ b' → Fit' a b → Fit' a b') : Opens P t rd' sz Fit' where
  len := fun b => by rw [← hg b, hr]; exact h.len _
  mono := hm
  get := by
    intro H enc w spare held fuel cs x hx
    obtain ⟨a, h1, h2⟩ := h.get hx
    exact ⟨g a, by rw [hr]; exact h1, hf _ _ h2⟩
end Go.Proofs.YtjjdabihnmilgaaGreat.A
namespace Go.Proofs.YtjjdabihnmilgaaGreat.A
open Go.RowKit
set_option linter.unusedVariables false
set_option linter.unusedSimpArgs false
theorem opName : Opens Tryz.prog 75 Name.iv 3 (fun _ _ => True) :=
  (Opens.struct Tryz.underlying75 (.cons (.string Tryz.underlying9) rfl (by kernel_rfl) (.cons (.string Tryz.underlying9) rfl (by kernel_rfl) (.one (.string Tryz.underlying9) rfl (by kernel_rfl)))) (by kernel_rfl)).iso
    (fun p => ⟨p.1, p.2.1, p.2.2⟩) (fun _ => rfl) (fun n => (n.sp, n.pf, n.lc)) (fun _ => rfl) (fun _ _ _ => trivial) (fun _ h => h)
theorem opAttr : Opens Tryz.prog 176 Attr.iv 4 (fun _ _ => True) :=
  (Opens.struct Tryz.underlying176 (.cons opName rfl (by kernel_rfl) (.one (.string Tryz.underlying9) rfl (by kernel_rfl))) (by kernel_rfl)).iso
    (fun p => ⟨p.1, p.2⟩) (fun _ => rfl) (fun n => (n.name, n.value)) (fun _ => rfl) (fun _ _ _ => trivial) (fun _ h => h)
theorem opNode : Opens Tryz.prog 81 Node.iv 16 (fun n b => n.data.length < b ∧ n.attrs.length < b ∧ n.kids.length < b) :=
  (Opens.struct Tryz.underlying81 (.cons (.int Tryz.underlying76) rfl (by kernel_rfl) (.cons opName rfl (by kernel_rfl) (.cons (.string Tryz.underlying9) rfl (by kernel_rfl) (.cons (.string Tryz.underlying9) rfl (by kernel_rfl)
    (.cons (.slice Tryz.underlying73 (by kernel_rfl) (by decide) (.int Tryz.underlying132)) rfl (by kernel_rfl) (.cons (.slice Tryz.underlying77 (by kernel_rfl) (by decide) opAttr) rfl (by kernel_rfl)
    (.cons (.int Tryz.underlying3) rfl (by kernel_rfl) (.cons (.slice Tryz.underlying78 (by kernel_rfl) (by decide) (.int Tryz.underlying3)) rfl (by kernel_rfl)
    (.cons (.int Tryz.underlying3) rfl (by kernel_rfl) (.cons (.int Tryz.underlying3) rfl (by kernel_rfl) (.cons (.int Tryz.underlying3) rfl (by kernel_rfl) (.cons (.int Tryz.underlying79) rfl (by kernel_rfl) (.cons (.bool Tryz.underlying4) rfl (by kernel_rfl) (.one (.bool Tryz.underlying4) rfl (by kernel_rfl))))))))))))))) (by kernel_rfl)).iso
    (fun p => ⟨p.1, p.2.1, p.2.2.1, p.2.2.2.1, p.2.2.2.2.1, p.2.2.2.2.2.1, p.2.2.2.2.2.2.1, p.2.2.2.2.2.2.2.1, p.2.2.2.2.2.2.2.2.1, p.2.2.2.2.2.2.2.2.2.1, p.2.2.2.2.2.2.2.2.2.2.1, p.2.2.2.2.2.2.2.2.2.2.2.1, p.2.2.2.2.2.2.2.2.2.2.2.2.1, p.2.2.2.2.2.2.2.2.2.2.2.2.2⟩) (fun _ => rfl)
    (fun n => (n.kind, n.name, n.pub, n.sys, n.data, n.attrs, n.parent, n.kids, n.doc, n.host, n.shadow, n.mode, n.manual, n.html)) (fun _ => rfl) (fun _ _ h => ⟨h.2.2.2.2.1.1, h.2.2.2.2.2.1.1, h.2.2.2.2.2.2.2.1.1⟩) (fun h h2 => ⟨Nat.lt_of_lt_of_le h2.1 h, Nat.lt_of_lt_of_le h2.2.1 h, Nat.lt_of_lt_of_le h2.2.2 h⟩)
theorem opForest : Opens Tryz.prog 24 (fun f : List Node => [.sl (f.map Node.iv)]) 1 (fun f b => f.length < b ∧ ∀ n ∈ f, n.data.length < b ∧ n.attrs.length < b ∧ n.kids.length < b) :=
  Opens.struct Tryz.underlying24 (.one (.slice Tryz.underlying22 (by kernel_rfl) (by decide) opNode) rfl (by kernel_rfl)) (by kernel_rfl)
theorem fit_bulk {f : List Node} {b : Nat} (hb : b ≤ 1048577) (h : f.length < b ∧ ∀ n ∈ f, n.data.length < b ∧ n.attrs.length < b ∧ n.kids.length < b) : Fit f :=
  ⟨by omega, fun n hn => by have := h.2 n hn; exact ⟨by omega, by omega, by omega⟩⟩
theorem argForest {w : World} {f : List Node} {cs : List Value} (h : All2 (RepI w noX) [.sl (f.map Node.iv)] cs) : RepA (M0 w noX) (fav f) (.agg cs.toArray) :=
  .agg _ _ (by
    cases h with
    | cons h1 h2 => cases h2; exact .cons (.imm _ _ h1) .nil)
theorem argInt {w : World} {k : IntKind} {n : Int} {v : Value} (h : All2 (RepI w noX) [.int k n] [v]) : RepA (M0 w noX) (.imm (.int k n)) v := by
  cases h with
  | cons h1 h2 => exact .imm _ _ h1
end Go.Proofs.YtjjdabihnmilgaaGreat.A
namespace Go.Proofs.YtjjdabihnmilgaaGreat.A
open Go.RowKit
set_option linter.unusedVariables false
set_option linter.unusedSimpArgs false
theorem Opens.intR {P : Program} {t : TypeId} {k : IntKind} (ht : P.underlying t = some (.int k)) : Opens P t (fun n : Int => [.int k n]) 1 (fun n _ => k.min ≤ n ∧ n ≤ k.max) where
  len := fun _ => rfl
  mono := fun _ h => h
  get := by
    intro H enc w spare held fuel cs x h
    obtain ⟨n, rfl, rfl, hw⟩ := DataW.trod_int ht h
    refine ⟨n, .cons (.int _ _) .nil, ?_⟩
    unfold Lit.wf at hw
    rw [Bool.and_eq_true] at hw
    exact ⟨of_decide_eq_true hw.1, of_decide_eq_true hw.2⟩
end Go.Proofs.YtjjdabihnmilgaaGreat.A
namespace Go.Proofs.YtjjdabihnmilgaaGreat.A
open Go.RowKit
set_option linter.unusedVariables false
set_option linter.unusedSimpArgs false
theorem opBnd : Opens Tryz.prog 39 Bnd.iv 2 (fun _ _ => True) :=
  (Opens.struct Tryz.underlying39 (.cons (.int Tryz.underlying3) rfl (by kernel_rfl) (.one (.int Tryz.underlying3) rfl (by kernel_rfl))) (by kernel_rfl)).iso
    (fun p => ⟨p.1, p.2⟩) (fun _ => rfl) (fun b => (b.n, b.o)) (fun _ => rfl) (fun _ _ _ => trivial) (fun _ h => h)
theorem opRng : Opens Tryz.prog 41 Rng.iv 4 (fun _ _ => True) :=
  (Opens.struct Tryz.underlying41 (.cons opBnd rfl (by kernel_rfl) (.one opBnd rfl (by kernel_rfl))) (by kernel_rfl)).iso
    (fun p => ⟨p.1, p.2⟩) (fun _ => rfl) (fun r => (r.s, r.e)) (fun _ => rfl) (fun _ _ _ => trivial) (fun _ h => h)
theorem imms_all {w : World} : ∀ {l : List IV} {xs : List Value}, All2 (RepI w noX) l xs → All2 (RepA (M0 w noX)) (l.map .imm) xs
  | [], _, h => by cases h; exact .nil
  | v :: l, _, h => by
    cases h with
    | cons h1 h2 => exact .cons (.imm _ _ h1) (imms_all h2)
theorem argBnd {w : World} {b : Bnd} {cs : List Value} (h : All2 (RepI w noX) b.iv cs) : RepA (M0 w noX) b.av (.agg cs.toArray) := .agg _ _ (imms_all h)
theorem argRng {w : World} {r : Rng} {cs : List Value} (h : All2 (RepI w noX) r.iv cs) : RepA (M0 w noX) r.av (.agg cs.toArray) := .agg _ _ (imms_all h)
theorem u8lo {n : Int} (h : IntKind.u8.min ≤ n ∧ n ≤ IntKind.u8.max) : 0 ≤ n := h.1
theorem u8hi {n : Int} (h : IntKind.u8.min ≤ n ∧ n ≤ IntKind.u8.max) : n < 256 := by
  have : IntKind.u8.max = 255 := by decide
  omega
end Go.Proofs.YtjjdabihnmilgaaGreat.A
