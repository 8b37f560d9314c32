/- The law CloneEquality of package canopylaw10 is true for every input whose arguments hold together at most 1048576 values and letters: the statement 'CloneEqualityUptoSaid'. Conditions: that bound alone. -/
import Derived.Test.YteijifoobaoclaaGreatFnW
import Derived.Test.YteijifoobaoclaaGreatRows
import Derived.Test.YteijifoobaoclaaGreatFnH
import Derived.ChangeArms
import Derived.WideShapes
import Derived.WalkKit
import Derived.ProofKit
import Derived.OpenShut
import Derived.ShutString
import Derived.ChangeOld
import Derived.Below
import Derived.JoinedCond
namespace Go.Proofs.YteijifoobaoclaaGreat.A
set_option linter.unusedVariables false
set_option linter.unusedSimpArgs false
set_option maxRecDepth 100000
set_option maxHeartbeats 4000000
theorem dec_dec (p : Prop) [Decidable p] : dec p = decide p := dec_eq p
/-- rightP, node by node. -/
theorem right_of {f : List Node} (h : f.length ≤ 4096) (h2 : ∀ j : Nat, j < f.length → okP f (j : Int) (atI f j)) : rightP f := ⟨h, fun i h0 h1 => by
  have := h2 i.toNat (by omega)
  rw [show ((i.toNat : Nat) : Int) = i by omega] at this
  exact this⟩
theorem sz0 : (⟨#[]⟩ : ByteArray).size = 0 := rfl
theorem sz1 : (⟨#[97]⟩ : ByteArray).size = 1 := rfl
def c4 : Node := { n0 with kind := 1, name := eA, doc := 1 }
def c5 : Node := { n0 with kind := 3, data := [65], doc := 1 }
def c4i : Node := { c4 with kids := [5] }
def c5i : Node := { c5 with parent := 4 }
def G4 : List Node := [s1, s2, s3, c4]
def G5 : List Node := [s1, s2, s3, c4, c5]
def GI : List Node := [s1, s2, s3, c4i, c5i]
theorem small_right : rightP smallF := by
  refine right_of (by decide) fun j hj => ?_
  have hj' : j < 3 := hj
  match j, hj' with
  | 0, _ =>
    refine ⟨?_, ?_, 1, ?_⟩
    · simp [madeP, m11, m27, m50, m77, m100, m200, smallF, G4, G5, GI, s1, s2, s3, c4i, c5i, c4, c5, atI, n0, traitsOf, namingB, namedB, shortB, attrsB, attrsGo, es, eA, sz0, sz1, dec_dec]
    · simp [linksP, l1, l2, l3, l4, kidsB, kidsGo, famB, famGo, nodeAt, inB, cntB, smallF, G4, G5, GI, s1, s2, s3, c4i, c5i, c4, c5, atI, n0, dec_dec]
    · simp [inR, itN, upN, aboveOf, smallF, G4, G5, GI, s1, s2, s3, c4i, c5i, c4, c5, atI, n0]
  | 1, _ =>
    refine ⟨?_, ?_, 2, ?_⟩
    · simp [madeP, m11, m27, m50, m77, m100, m200, smallF, G4, G5, GI, s1, s2, s3, c4i, c5i, c4, c5, atI, n0, traitsOf, namingB, namedB, shortB, attrsB, attrsGo, es, eA, sz0, sz1, dec_dec]
    · simp [linksP, l1, l2, l3, l4, kidsB, kidsGo, famB, famGo, nodeAt, inB, cntB, smallF, G4, G5, GI, s1, s2, s3, c4i, c5i, c4, c5, atI, n0, dec_dec]
    · simp [inR, itN, upN, aboveOf, smallF, G4, G5, GI, s1, s2, s3, c4i, c5i, c4, c5, atI, n0]
  | 2, _ =>
    refine ⟨?_, ?_, 3, ?_⟩
    · simp [madeP, m11, m27, m50, m77, m100, m200, smallF, G4, G5, GI, s1, s2, s3, c4i, c5i, c4, c5, atI, n0, traitsOf, namingB, namedB, shortB, attrsB, attrsGo, es, eA, sz0, sz1, dec_dec]
    · simp [linksP, l1, l2, l3, l4, kidsB, kidsGo, famB, famGo, nodeAt, inB, cntB, smallF, G4, G5, GI, s1, s2, s3, c4i, c5i, c4, c5, atI, n0, dec_dec]
    · simp [inR, itN, upN, aboveOf, smallF, G4, G5, GI, s1, s2, s3, c4i, c5i, c4, c5, atI, n0]
theorem g4_right : rightP G4 := by
  refine right_of (by decide) fun j hj => ?_
  have hj' : j < 4 := hj
  match j, hj' with
  | 0, _ =>
    refine ⟨?_, ?_, 1, ?_⟩
    · simp [madeP, m11, m27, m50, m77, m100, m200, smallF, G4, G5, GI, s1, s2, s3, c4i, c5i, c4, c5, atI, n0, traitsOf, namingB, namedB, shortB, attrsB, attrsGo, es, eA, sz0, sz1, dec_dec]
    · simp [linksP, l1, l2, l3, l4, kidsB, kidsGo, famB, famGo, nodeAt, inB, cntB, smallF, G4, G5, GI, s1, s2, s3, c4i, c5i, c4, c5, atI, n0, dec_dec]
    · simp [inR, itN, upN, aboveOf, smallF, G4, G5, GI, s1, s2, s3, c4i, c5i, c4, c5, atI, n0]
  | 1, _ =>
    refine ⟨?_, ?_, 2, ?_⟩
    · simp [madeP, m11, m27, m50, m77, m100, m200, smallF, G4, G5, GI, s1, s2, s3, c4i, c5i, c4, c5, atI, n0, traitsOf, namingB, namedB, shortB, attrsB, attrsGo, es, eA, sz0, sz1, dec_dec]
    · simp [linksP, l1, l2, l3, l4, kidsB, kidsGo, famB, famGo, nodeAt, inB, cntB, smallF, G4, G5, GI, s1, s2, s3, c4i, c5i, c4, c5, atI, n0, dec_dec]
    · simp [inR, itN, upN, aboveOf, smallF, G4, G5, GI, s1, s2, s3, c4i, c5i, c4, c5, atI, n0]
  | 2, _ =>
    refine ⟨?_, ?_, 3, ?_⟩
    · simp [madeP, m11, m27, m50, m77, m100, m200, smallF, G4, G5, GI, s1, s2, s3, c4i, c5i, c4, c5, atI, n0, traitsOf, namingB, namedB, shortB, attrsB, attrsGo, es, eA, sz0, sz1, dec_dec]
    · simp [linksP, l1, l2, l3, l4, kidsB, kidsGo, famB, famGo, nodeAt, inB, cntB, smallF, G4, G5, GI, s1, s2, s3, c4i, c5i, c4, c5, atI, n0, dec_dec]
    · simp [inR, itN, upN, aboveOf, smallF, G4, G5, GI, s1, s2, s3, c4i, c5i, c4, c5, atI, n0]
  | 3, _ =>
    refine ⟨?_, ?_, 1, ?_⟩
    · simp [madeP, m11, m27, m50, m77, m100, m200, smallF, G4, G5, GI, s1, s2, s3, c4i, c5i, c4, c5, atI, n0, traitsOf, namingB, namedB, shortB, attrsB, attrsGo, es, eA, sz0, sz1, dec_dec]
    · simp [linksP, l1, l2, l3, l4, kidsB, kidsGo, famB, famGo, nodeAt, inB, cntB, smallF, G4, G5, GI, s1, s2, s3, c4i, c5i, c4, c5, atI, n0, dec_dec]
    · simp [inR, itN, upN, aboveOf, smallF, G4, G5, GI, s1, s2, s3, c4i, c5i, c4, c5, atI, n0]
theorem g5_right : rightP G5 := by
  refine right_of (by decide) fun j hj => ?_
  have hj' : j < 5 := hj
  match j, hj' with
  | 0, _ =>
    refine ⟨?_, ?_, 1, ?_⟩
    · simp [madeP, m11, m27, m50, m77, m100, m200, smallF, G4, G5, GI, s1, s2, s3, c4i, c5i, c4, c5, atI, n0, traitsOf, namingB, namedB, shortB, attrsB, attrsGo, es, eA, sz0, sz1, dec_dec]
    · simp [linksP, l1, l2, l3, l4, kidsB, kidsGo, famB, famGo, nodeAt, inB, cntB, smallF, G4, G5, GI, s1, s2, s3, c4i, c5i, c4, c5, atI, n0, dec_dec]
    · simp [inR, itN, upN, aboveOf, smallF, G4, G5, GI, s1, s2, s3, c4i, c5i, c4, c5, atI, n0]
  | 1, _ =>
    refine ⟨?_, ?_, 2, ?_⟩
    · simp [madeP, m11, m27, m50, m77, m100, m200, smallF, G4, G5, GI, s1, s2, s3, c4i, c5i, c4, c5, atI, n0, traitsOf, namingB, namedB, shortB, attrsB, attrsGo, es, eA, sz0, sz1, dec_dec]
    · simp [linksP, l1, l2, l3, l4, kidsB, kidsGo, famB, famGo, nodeAt, inB, cntB, smallF, G4, G5, GI, s1, s2, s3, c4i, c5i, c4, c5, atI, n0, dec_dec]
    · simp [inR, itN, upN, aboveOf, smallF, G4, G5, GI, s1, s2, s3, c4i, c5i, c4, c5, atI, n0]
  | 2, _ =>
    refine ⟨?_, ?_, 3, ?_⟩
    · simp [madeP, m11, m27, m50, m77, m100, m200, smallF, G4, G5, GI, s1, s2, s3, c4i, c5i, c4, c5, atI, n0, traitsOf, namingB, namedB, shortB, attrsB, attrsGo, es, eA, sz0, sz1, dec_dec]
    · simp [linksP, l1, l2, l3, l4, kidsB, kidsGo, famB, famGo, nodeAt, inB, cntB, smallF, G4, G5, GI, s1, s2, s3, c4i, c5i, c4, c5, atI, n0, dec_dec]
    · simp [inR, itN, upN, aboveOf, smallF, G4, G5, GI, s1, s2, s3, c4i, c5i, c4, c5, atI, n0]
  | 3, _ =>
    refine ⟨?_, ?_, 1, ?_⟩
    · simp [madeP, m11, m27, m50, m77, m100, m200, smallF, G4, G5, GI, s1, s2, s3, c4i, c5i, c4, c5, atI, n0, traitsOf, namingB, namedB, shortB, attrsB, attrsGo, es, eA, sz0, sz1, dec_dec]
    · simp [linksP, l1, l2, l3, l4, kidsB, kidsGo, famB, famGo, nodeAt, inB, cntB, smallF, G4, G5, GI, s1, s2, s3, c4i, c5i, c4, c5, atI, n0, dec_dec]
    · simp [inR, itN, upN, aboveOf, smallF, G4, G5, GI, s1, s2, s3, c4i, c5i, c4, c5, atI, n0]
  | 4, _ =>
    refine ⟨?_, ?_, 1, ?_⟩
    · simp [madeP, m11, m27, m50, m77, m100, m200, smallF, G4, G5, GI, s1, s2, s3, c4i, c5i, c4, c5, atI, n0, traitsOf, namingB, namedB, shortB, attrsB, attrsGo, es, eA, sz0, sz1, dec_dec]
    · simp [linksP, l1, l2, l3, l4, kidsB, kidsGo, famB, famGo, nodeAt, inB, cntB, smallF, G4, G5, GI, s1, s2, s3, c4i, c5i, c4, c5, atI, n0, dec_dec]
    · simp [inR, itN, upN, aboveOf, smallF, G4, G5, GI, s1, s2, s3, c4i, c5i, c4, c5, atI, n0]
theorem gi_right : rightP GI := by
  refine right_of (by decide) fun j hj => ?_
  have hj' : j < 5 := hj
  match j, hj' with
  | 0, _ =>
    refine ⟨?_, ?_, 1, ?_⟩
    · simp [madeP, m11, m27, m50, m77, m100, m200, smallF, G4, G5, GI, s1, s2, s3, c4i, c5i, c4, c5, atI, n0, traitsOf, namingB, namedB, shortB, attrsB, attrsGo, es, eA, sz0, sz1, dec_dec]
    · simp [linksP, l1, l2, l3, l4, kidsB, kidsGo, famB, famGo, nodeAt, inB, cntB, smallF, G4, G5, GI, s1, s2, s3, c4i, c5i, c4, c5, atI, n0, dec_dec]
    · simp [inR, itN, upN, aboveOf, smallF, G4, G5, GI, s1, s2, s3, c4i, c5i, c4, c5, atI, n0]
  | 1, _ =>
    refine ⟨?_, ?_, 2, ?_⟩
    · simp [madeP, m11, m27, m50, m77, m100, m200, smallF, G4, G5, GI, s1, s2, s3, c4i, c5i, c4, c5, atI, n0, traitsOf, namingB, namedB, shortB, attrsB, attrsGo, es, eA, sz0, sz1, dec_dec]
    · simp [linksP, l1, l2, l3, l4, kidsB, kidsGo, famB, famGo, nodeAt, inB, cntB, smallF, G4, G5, GI, s1, s2, s3, c4i, c5i, c4, c5, atI, n0, dec_dec]
    · simp [inR, itN, upN, aboveOf, smallF, G4, G5, GI, s1, s2, s3, c4i, c5i, c4, c5, atI, n0]
  | 2, _ =>
    refine ⟨?_, ?_, 3, ?_⟩
    · simp [madeP, m11, m27, m50, m77, m100, m200, smallF, G4, G5, GI, s1, s2, s3, c4i, c5i, c4, c5, atI, n0, traitsOf, namingB, namedB, shortB, attrsB, attrsGo, es, eA, sz0, sz1, dec_dec]
    · simp [linksP, l1, l2, l3, l4, kidsB, kidsGo, famB, famGo, nodeAt, inB, cntB, smallF, G4, G5, GI, s1, s2, s3, c4i, c5i, c4, c5, atI, n0, dec_dec]
    · simp [inR, itN, upN, aboveOf, smallF, G4, G5, GI, s1, s2, s3, c4i, c5i, c4, c5, atI, n0]
  | 3, _ =>
    refine ⟨?_, ?_, 1, ?_⟩
    · simp [madeP, m11, m27, m50, m77, m100, m200, smallF, G4, G5, GI, s1, s2, s3, c4i, c5i, c4, c5, atI, n0, traitsOf, namingB, namedB, shortB, attrsB, attrsGo, es, eA, sz0, sz1, dec_dec]
    · simp [linksP, l1, l2, l3, l4, kidsB, kidsGo, famB, famGo, nodeAt, inB, cntB, smallF, G4, G5, GI, s1, s2, s3, c4i, c5i, c4, c5, atI, n0, dec_dec]
    · simp [inR, itN, upN, aboveOf, smallF, G4, G5, GI, s1, s2, s3, c4i, c5i, c4, c5, atI, n0]
  | 4, _ =>
    refine ⟨?_, ?_, 2, ?_⟩
    · simp [madeP, m11, m27, m50, m77, m100, m200, smallF, G4, G5, GI, s1, s2, s3, c4i, c5i, c4, c5, atI, n0, traitsOf, namingB, namedB, shortB, attrsB, attrsGo, es, eA, sz0, sz1, dec_dec]
    · simp [linksP, l1, l2, l3, l4, kidsB, kidsGo, famB, famGo, nodeAt, inB, cntB, smallF, G4, G5, GI, s1, s2, s3, c4i, c5i, c4, c5, atI, n0, dec_dec]
    · simp [inR, itN, upN, aboveOf, smallF, G4, G5, GI, s1, s2, s3, c4i, c5i, c4, c5, atI, n0]
theorem fit_of {f : List Node} (h : f.length ≤ 1000000000) (h2 : ∀ n ∈ f, n.data.length ≤ 10 ∧ n.attrs.length ≤ 10 ∧ n.kids.length ≤ 10) : Fit f := ⟨h, fun n hn => by
  obtain ⟨a, b, c⟩ := h2 n hn
  exact ⟨by omega, by omega, by omega⟩⟩
theorem small_fit : Fit smallF := fit_of (by decide) (by simp [smallF, s1, s2, s3, n0])
theorem g4_fit : Fit G4 := fit_of (by decide) (by simp [G4, s1, s2, s3, c4, n0])
theorem g5_fit : Fit G5 := fit_of (by decide) (by simp [G5, s1, s2, s3, c4, c5, n0])
theorem gi_fit : Fit GI := fit_of (by decide) (by simp [GI, s1, s2, s3, c4i, c5i, c4, c5, n0])
theorem do4 : PureC Tryz.prog 61 [fav smallF, (mkCh (smallF.length + 1) c4).av] (.tup [fav G4, iav 0]) := by
  have h := doneM_c smallF c4 small_fit (g4_fit.node c4 (by simp [G4])) (by decide) (by decide)
  rw [show doneM smallF c4 = (G4, 0) by unfold doneM; rw [if_neg (by decide), if_pos (by rw [dec_true]; exact g4_right)]; rfl] at h
  exact apply_c _ _ _ _ small_fit small_right h
theorem do5 : PureC Tryz.prog 61 [fav G4, (mkCh (G4.length + 1) c5).av] (.tup [fav G5, iav 0]) := by
  have h := doneM_c G4 c5 g4_fit (g5_fit.node c5 (by simp [G5])) (by decide) (by decide)
  rw [show doneM G4 c5 = (G5, 0) by unfold doneM; rw [if_neg (by decide), if_pos (by rw [dec_true]; exact g5_right)]; rfl] at h
  exact apply_c _ _ _ _ g4_fit g4_right h
theorem doI : PureC Tryz.prog 61 [fav G5, (inCh 5 4 0).av] (.tup [fav GI, iav 0]) := by
  have h := doneI0_c G5 (inCh 5 4 0) g5_fit (by decide) rfl rfl (by decide) (by decide) (by decide) (by decide) (by decide) rfl rfl rfl
  rw [show doneI G5 (inCh 5 4 0) = (GI, 0) by unfold doneI; rw [show insF G5 (inCh 5 4 0).node (inCh 5 4 0).parent = GI from rfl, if_pos (by rw [dec_true]; exact gi_right)]] at h
  exact apply_c _ _ _ _ g5_fit g5_right h
def L3 : List Change := [mkCh 4 c4, mkCh 5 c5, inCh 5 4 0]
theorem one3 : OneR smallF true ⟨G4, [mkCh 4 c4], 0⟩ 3 1 4 ⟨GI, L3, 0⟩ 5 :=
  .mk _ ⟨G5, [mkCh 4 c4, mkCh 5 c5], 0⟩ ⟨GI, L3, 0⟩ _ _ _ 1 _ _ true (by decide) (by decide) (by decide) (by decide) (by decide) (by intro h; exact absurd h (by decide)) (fun _ => rfl)
    (.ok ⟨G4, [mkCh 4 c4], 0⟩ _ G5 rfl do5) rfl (by intro h; exact absurd h (by decide)) (fun _ => ⟨true, .ok ⟨G5, [mkCh 4 c4, mkCh 5 c5], 0⟩ _ GI rfl doI⟩) (by intro h; cases h) (fun _ => .nil _ _ _)
theorem one2 : OneR smallF true ⟨smallF, [], 0⟩ 2 1 0 ⟨GI, L3, 0⟩ 4 :=
  .mk _ ⟨G4, [mkCh 4 c4], 0⟩ ⟨G4, [mkCh 4 c4], 0⟩ _ _ _ 1 _ _ true (by decide) (by decide) (by decide) (by decide) (by decide) (by intro h; exact absurd h (by decide)) (fun _ => rfl)
    (.ok ⟨smallF, [], 0⟩ _ G4 rfl do4) rfl (fun _ => rfl) (by intro h; exact absurd rfl h) (by intro h; cases h) (fun _ => .cons _ _ _ _ _ _ _ _ one3 (.nil _ _ _))
theorem fault0 {f : List Node} {l : List Int} (hr : rightP f) (hl : (l.all fun h => inB f h) = true) : faultR f l = 0 := by
  unfold faultR
  rw [if_pos (by rw [dec_true]; exact hr), if_pos hl]
theorem clone_small : PureC Tryz.prog 11 [fav smallF, iav 2, bav true] (.tup [fav GI, .imm (.sl (L3.map Change.iv)), iav 4, iav 0]) := by
  have h := cloneDone_c smallF 2 1 true ⟨GI, L3, 0⟩ 4 (by decide) one2 (by decide) (fun _ => by simp [L3]) (by
    intro i h0 h1
    have hf : ∀ c ∈ L3, FitC c := by
      intro c hc
      have hn4 : FitN c4 := g4_fit.node c4 (by simp [G4])
      have hn5 : FitN c5 := g5_fit.node c5 (by simp [G5])
      simp only [L3, List.mem_cons, List.not_mem_nil, or_false] at hc
      rcases hc with rfl | rfl | rfl
      · exact ⟨by simp [mkCh, c0], hn4, by simp [mkCh, c0], by simp [mkCh, c0]⟩
      · exact ⟨by simp [mkCh, c0], hn5, by simp [mkCh, c0], by simp [mkCh, c0]⟩
      · exact ⟨by simp [inCh, c0], fit0, by simp [inCh, c0], by simp [inCh, c0]⟩
    exact hf _ (atI_mem h0 h1))
  unfold doneA at h
  rw [if_pos rfl] at h
  exact cloneOk_c smallF GI 2 4 0 true _ small_fit (fault0 small_right (by decide)) (by decide) h
theorem import_small : PureC Tryz.prog 16 [fav smallF, iav 1, iav 1, bav true] (noA 17) := importDoc_c smallF 1 1 true small_fit (fault0 small_right (by decide)) rfl rfl
theorem eq35 : PureC Tryz.prog 32 [fav GI, iav 3, iav 5] (bav true) := equalYes_c GI 3 5 true gi_fit ⟨rfl, by intro h; exact absurd h (by decide), by intro _ h; exact absurd h (by decide), fun _ _ _ => ⟨rfl, rfl⟩⟩ (by
  unfold EqsG
  rw [if_pos (show (nodeAt GI 3).kids.length = (nodeAt GI 5).kids.length from rfl)]
  exact ⟨0, by decide, fun j h0 h1 => by omega, fun _ => rfl, fun h => by cases h⟩)
theorem eq24 : PureC Tryz.prog 32 [fav GI, iav 2, iav 4] (bav true) := equalYes_c GI 2 4 true gi_fit ⟨rfl, by intro h; exact absurd h (by decide), fun _ _ => ⟨rfl, rfl, by intro x hx; cases hx⟩, by intro _ h; exact absurd rfl h⟩ (by
  unfold EqsG
  rw [if_pos (show (nodeAt GI 2).kids.length = (nodeAt GI 4).kids.length from rfl)]
  refine ⟨1, by decide, fun j h0 h1 => ?_, fun _ => rfl, fun h => by cases h⟩
  have : j = 0 := by omega
  subst this
  exact eq35)
theorem begins_true : PureC Tryz.prog 15 [] (bav true) := begins_c GI L3 rfl rfl clone_small (equal_c GI 2 4 true gi_fit eq24 (fault0 gi_right (by decide))) import_small
end Go.Proofs.YteijifoobaoclaaGreat.A
namespace Go.Proofs.YteijifoobaoclaaGreat.A
set_option linter.unusedVariables false
set_option linter.unusedSimpArgs false
set_option maxRecDepth 100000
set_option maxHeartbeats 4000000
theorem nodup_le {α : Type} [DecidableEq α] : ∀ {l m : List α}, l.Nodup → (∀ x ∈ l, x ∈ m) → l.length ≤ m.length
  | [], m, _, _ => Nat.zero_le _
  | x :: r, m, hn, hs => by
    have hx := hs x (by simp)
    rw [List.nodup_cons] at hn
    have := nodup_le (l := r) (m := m.erase x) hn.2 fun y hy => by
      have hne : y ≠ x := fun e => hn.1 (e ▸ hy)
      exact (List.mem_erase_of_ne hne).2 (hs y (by simp [hy]))
    have hl := List.length_erase_of_mem hx
    have : 0 < m.length := List.length_pos_of_mem hx
    simp only [List.length_cons]
    omega
theorem nodup_ge {α : Type} [DecidableEq α] {l m : List α} (hn : l.Nodup) (hs : ∀ x ∈ l, x ∈ m) (hl : l.length = m.length) : ∀ y ∈ m, y ∈ l := by
  intro y hy
  by_cases h : y ∈ l
  · exact h
  · have := nodup_le (l := l) (m := m.erase y) hn fun x hx => by
      have hne : x ≠ y := fun e => h (e ▸ hx)
      exact (List.mem_erase_of_ne hne).2 (hs x hx)
    have hl2 := List.length_erase_of_mem hy
    have : 0 < m.length := List.length_pos_of_mem hy
    omega
section
variable {f : List Node}
theorem right_node (hr : rightP f) {a : Int} (ha : inR f a) : madeP (nodeAt f a) ∧ linksP f a (nodeAt f a) ∧ Good f a := by
  have h := hr.2 (a - 1) (by have := ha.1; omega) (by have := ha.2; omega)
  unfold okP at h
  rw [show a - 1 + 1 = a by omega] at h
  have e : nodeAt f a = atI f (a - 1) := by unfold nodeAt; rw [if_pos (show 1 ≤ a ∧ a ≤ (f.length : Int) from ha)]
  rw [e]
  exact h
theorem node_out {a : Int} (ha : ¬ inR f a) : nodeAt f a = n0 := by unfold nodeAt; rw [if_neg (show ¬ (1 ≤ a ∧ a ≤ (f.length : Int)) from ha)]
theorem kidsGo_mem {h doc : Int} : ∀ (l seen : List Int), kidsGo f h doc seen l = true → ∀ k ∈ l, inB f k = true ∧ (nodeAt f k).parent = h
  | [], _, _, k, hk => by cases hk
  | x :: r, seen, hg, k, hk => by
    rw [kidsGo] at hg
    split at hg
    · cases hg
    rename_i h1
    split at hg
    · cases hg
    split at hg
    · cases hg
    rename_i h3
    split at hg
    · cases hg
    rcases List.mem_cons.1 hk with rfl | hk
    · refine ⟨by simpa using h1, ?_⟩
      rw [dec_false, Decidable.not_not] at h3
      exact h3
    · exact kidsGo_mem r _ hg k hk
theorem famGo_mem {K : Int → Int} {d : Bool} : ∀ (l : List Int) (e t : Int), famGo K d l e t = true → ∀ k ∈ l, K k ≠ 12
  | [], _, _, _, k, hk => by cases hk
  | x :: r, e, t, hg, k, hk => by
    rw [famGo] at hg
    rcases List.mem_cons.1 hk with rfl | hk
    · intro h12
      rw [h12] at hg
      simp at hg
    · split at hg
      · exact famGo_mem r _ _ hg k hk
      split at hg
      · split at hg
        · cases hg
        · exact famGo_mem r _ _ hg k hk
      split at hg
      · split at hg
        · cases hg
        · exact famGo_mem r _ _ hg k hk
      split at hg
      · exact famGo_mem r _ _ hg k hk
      · cases hg
theorem right_kid (hr : rightP f) {a k : Int} (ha : inR f a) (hk : k ∈ (nodeAt f a).kids) : inR f k ∧ upN f k = a := by
  obtain ⟨_, hl, _⟩ := right_node hr ha
  have hkb := hl.2.2.2.2
  unfold kidsB at hkb
  simp only [Bool.and_eq_true] at hkb
  obtain ⟨h1, h2⟩ := kidsGo_mem _ _ hkb.1 k hk
  have h12 := famGo_mem _ _ _ hkb.2 k hk
  have hin : inR f k := by simpa [inB, inR] using h1
  refine ⟨hin, ?_⟩
  have e : nodeAt f k = atI f (k - 1) := by unfold nodeAt; rw [if_pos (show 1 ≤ k ∧ k ≤ (f.length : Int) from hin)]
  unfold upN aboveOf
  rw [← e, if_neg h12]
  exact h2
/-- What holds of a node as soon as it holds of its kids holds of all. -/
theorem right_ind (hr : rightP f) (P : Int → Prop) (step : ∀ a, (∀ k ∈ (nodeAt f a).kids, P k) → P a) : ∀ a, P a := by
  have key : ∀ (m : Nat) (a : Int) (l : List Int), l.length + m = f.length + 1 → l.Nodup → (∀ b ∈ l, inR f b ∧ (b = a ∨ Reach f a b)) → a ∈ l → P a := by
    intro m
    induction m with
    | zero =>
      intro a l hl hn hin _
      exfalso
      have := nodup_le (l := l) (m := (List.range f.length).map fun j : Nat => (j : Int) + 1) hn fun x hx => by
        have hx := (hin x hx).1
        have h1 := hx.1
        have h2 := hx.2
        exact List.mem_map.2 ⟨(x - 1).toNat, List.mem_range.2 (by omega), by omega⟩
      simp at this
      omega
    | succ m ih =>
      intro a l hl hn hin ha
      refine step a fun k hk => ?_
      have hina := (hin a ha).1
      obtain ⟨hink, hup⟩ := right_kid hr hina hk
      have hg := (right_node hr hink).2.2
      have hrk : ∀ b ∈ l, Reach f k b := by
        intro b hb
        have h1 : Reach f k a := hup ▸ reach_one hink
        rcases (hin b hb).2 with rfl | h
        · exact h1
        · obtain ⟨i, i1, i2, i3⟩ := h1
          obtain ⟨j, j1, j2, j3⟩ := h
          refine ⟨i + j, by omega, by rw [itN_add, i2, j2], fun q hq => ?_⟩
          rcases Nat.lt_or_ge q i with h | h
          · exact i3 q h
          · rw [show q = i + (q - i) by omega, itN_add, i2]
            exact j3 _ (by omega)
      refine ih k (k :: l) (by simp; omega) (List.nodup_cons.2 ⟨fun hkl => reach_loop (hrk k hkl) hg, hn⟩) (fun b hb => ?_) (by simp)
      rcases List.mem_cons.1 hb with rfl | hb
      · exact ⟨hink, .inl rfl⟩
      · exact ⟨(hin b hb).1, .inr (hrk b hb)⟩
  intro a
  by_cases ha : inR f a
  · exact key f.length a [a] (by simp; omega) (by simp) (fun b hb => by
      simp only [List.mem_singleton] at hb
      subst hb
      exact ⟨ha, .inl rfl⟩) (by simp)
  · exact step a fun k hk => by
      rw [node_out ha] at hk
      cases hk
end
inductive EqN (f : List Node) : Int → Int → Prop
  | mk (a b : Int) (h : (nodeAt f a).kind = (nodeAt f b).kind ∧ cmpP (nodeAt f a).kind (nodeAt f a) (nodeAt f b)) (hl : (nodeAt f a).kids.length = (nodeAt f b).kids.length) (hk : ∀ j : Int, 0 ≤ j → j < (nodeAt f a).kids.length → EqN f (atI (nodeAt f a).kids j) (atI (nodeAt f b).kids j)) : EqN f a b
theorem least {P : Nat → Prop} : ∀ {n : Nat}, (∃ j, j < n ∧ ¬ P j) → ∃ j, j < n ∧ ¬ P j ∧ ∀ i, i < j → P i
  | 0, ⟨j, h, _⟩ => by omega
  | n + 1, h => by
    by_cases h2 : ∃ j, j < n ∧ ¬ P j
    · obtain ⟨j, k1, k2, k3⟩ := least h2
      exact ⟨j, by omega, k2, k3⟩
    · obtain ⟨j, k1, k2⟩ := h
      have : j = n := by
        rcases Nat.lt_or_ge j n with h | h
        · exact absurd ⟨j, h, k2⟩ h2
        · omega
      subst this
      refine ⟨j, k1, k2, fun i hi => ?_⟩
      by_cases h3 : P i
      · exact h3
      · exact absurd ⟨i, hi, h3⟩ h2
theorem equal_all (f : List Node) (hf : Fit f) (hr : rightP f) : ∀ a b : Int, PureC Tryz.prog 32 [fav f, iav a, iav b] (bav (dec (EqN f a b))) := by
  refine right_ind hr (fun a => ∀ b : Int, PureC Tryz.prog 32 [fav f, iav a, iav b] (bav (dec (EqN f a b)))) fun a ih b => ?_
  by_cases hc : (nodeAt f a).kind = (nodeAt f b).kind ∧ cmpP (nodeAt f a).kind (nodeAt f a) (nodeAt f b)
  · refine equalYes_c f a b _ hf hc ?_
    unfold EqsG
    by_cases hl : (nodeAt f a).kids.length = (nodeAt f b).kids.length
    · rw [if_pos hl]
      by_cases hall : ∀ j : Int, 0 ≤ j → j < (nodeAt f a).kids.length → EqN f (atI (nodeAt f a).kids j) (atI (nodeAt f b).kids j)
      · rw [dec_pos (.mk a b hc hl hall)]
        refine ⟨_, Nat.le_refl _, fun j h0 h1 => ?_, fun _ => rfl, fun h => by cases h⟩
        have := ih _ (atI_mem h0 h1) (atI (nodeAt f b).kids j)
        rw [dec_pos (hall j h0 h1)] at this
        exact this
      · rw [dec_neg (p := EqN f a b) (fun h => by cases h with | mk _ _ _ _ hk => exact hall hk)]
        obtain ⟨n, n1, n2, n3⟩ := least (P := fun j : Nat => EqN f (atI (nodeAt f a).kids (j : Int)) (atI (nodeAt f b).kids (j : Int))) (n := (nodeAt f a).kids.length) (by
          by_cases h : ∃ j : Nat, j < (nodeAt f a).kids.length ∧ ¬ EqN f (atI (nodeAt f a).kids (j : Int)) (atI (nodeAt f b).kids (j : Int))
          · exact h
          · exfalso
            apply hall
            intro j h0 h1
            by_cases h2 : EqN f (atI (nodeAt f a).kids j) (atI (nodeAt f b).kids j)
            · exact h2
            · exact absurd ⟨j.toNat, by omega, by rw [show ((j.toNat : Nat) : Int) = j by omega]; exact h2⟩ h)
        refine ⟨n, by omega, fun j h0 h1 => ?_, fun h => (by cases h), fun _ => ⟨n1, ?_⟩⟩
        · have := ih _ (atI_mem h0 (by omega)) (atI (nodeAt f b).kids j)
          have h3 := n3 j.toNat (by omega)
          rw [show ((j.toNat : Nat) : Int) = j by omega] at h3
          rw [dec_pos h3] at this
          exact this
        · have := ih _ (atI_mem (i := (n : Int)) (by omega) (by omega)) (atI (nodeAt f b).kids (n : Int))
          rw [dec_neg n2] at this
          exact this
    · rw [if_neg hl, dec_neg (p := EqN f a b) (fun h => by cases h with | mk _ _ _ hl' _ => exact hl hl')]
  · rw [dec_neg (p := EqN f a b) (fun h => by cases h with | mk _ _ h _ _ => exact hc h)]
    exact equalNo_c f a b hf hc
end Go.Proofs.YteijifoobaoclaaGreat.A
namespace Go.Proofs.YteijifoobaoclaaGreat.A
set_option linter.unusedVariables false
set_option linter.unusedSimpArgs false
set_option maxRecDepth 100000
set_option maxHeartbeats 4000000
def sigA (x : Attr) : ByteArray × ByteArray × ByteArray := (x.name.sp, x.name.lc, x.value)
theorem sameA_sig (x y : Attr) : sameA x y ↔ sigA x = sigA y := by
  unfold sameA sigA
  simp only [Prod.mk.injEq]
theorem attrsGo_nodup : ∀ (l : List Attr) (seen : List (ByteArray × ByteArray)), attrsGo seen l = true → (l.map fun a => key a.name).Nodup ∧ ∀ a ∈ l, key a.name ∉ seen
  | [], _, _ => ⟨List.nodup_nil, fun a h => by cases h⟩
  | a :: r, seen, h => by
    rw [attrsGo] at h
    split at h
    · cases h
    split at h
    · cases h
    split at h
    · cases h
    rename_i h3
    rw [dec_true] at h3
    obtain ⟨h1, h2⟩ := attrsGo_nodup r _ h
    refine ⟨?_, ?_⟩
    · rw [List.map_cons, List.nodup_cons]
      refine ⟨fun hm => ?_, h1⟩
      obtain ⟨b, hb, e⟩ := List.mem_map.1 hm
      exact h2 b hb (by rw [e]; simp)
    · intro b hb
      rcases List.mem_cons.1 hb with rfl | hb
      · exact h3
      · exact fun hs => h2 b hb (by simp [hs])
theorem nodup_sig {l : List Attr} (h : (l.map fun a => key a.name).Nodup) : (l.map sigA).Nodup := by
  induction l with
  | nil => exact List.nodup_nil
  | cons a r ih =>
    rw [List.map_cons, List.nodup_cons] at h ⊢
    refine ⟨fun hm => h.1 ?_, ih h.2⟩
    obtain ⟨b, hb, e⟩ := List.mem_map.1 hm
    refine List.mem_map.2 ⟨b, hb, ?_⟩
    unfold sigA at e
    simp only [Prod.mk.injEq] at e
    unfold key
    rw [e.1, e.2.1]
def ndA (n : Node) : Prop := (n.attrs.map sigA).Nodup
theorem elP_sig (a b : Node) : elP a b ↔ a.name = b.name ∧ a.attrs.length = b.attrs.length ∧ ∀ x ∈ a.attrs.map sigA, x ∈ b.attrs.map sigA := by
  unfold elP
  simp only [sameA_sig, List.mem_map]
  constructor
  · rintro ⟨h1, h2, h3⟩
    refine ⟨h1, h2, ?_⟩
    rintro x ⟨y, hy, rfl⟩
    obtain ⟨z, hz, e⟩ := h3 y hy
    exact ⟨z, hz, e.symm⟩
  · rintro ⟨h1, h2, h3⟩
    refine ⟨h1, h2, fun x hx => ?_⟩
    obtain ⟨z, hz, e⟩ := h3 (sigA x) ⟨x, hx, rfl⟩
    exact ⟨z, hz, e.symm⟩
theorem elP_symm {a b : Node} (ha : ndA a) (h : elP a b) : elP b a := by
  rw [elP_sig] at h ⊢
  exact ⟨h.1.symm, h.2.1.symm, nodup_ge ha h.2.2 (by simp only [List.length_map]; exact h.2.1)⟩
theorem elP_trans {a b c : Node} (h : elP a b) (h2 : elP b c) : elP a c := by
  rw [elP_sig] at *
  exact ⟨h.1.trans h2.1, h.2.1.trans h2.2.1, fun x hx => h2.2.2 x (h.2.2 x hx)⟩
theorem elP_refl (a : Node) : elP a a := by
  rw [elP_sig]
  exact ⟨rfl, rfl, fun x hx => hx⟩
theorem cmpP_refl (k : Int) (a : Node) : cmpP k a a := ⟨fun _ => ⟨rfl, rfl, rfl⟩, fun _ _ => elP_refl a, fun _ _ _ => ⟨rfl, rfl⟩⟩
theorem cmpP_symm {k : Int} {a b : Node} (ha : ndA a) (h : cmpP k a b) : cmpP k b a := by
  refine ⟨fun e => ?_, fun e1 e2 => elP_symm ha (h.2.1 e1 e2), fun e1 e2 e3 => ?_⟩
  · have := h.1 e
    exact ⟨this.1.symm, this.2.1.symm, this.2.2.symm⟩
  · have := h.2.2 e1 e2 e3
    exact ⟨this.1.symm, this.2.symm⟩
theorem cmpP_trans {k : Int} {a b c : Node} (h : cmpP k a b) (g : cmpP k b c) : cmpP k a c := by
  refine ⟨fun e => ?_, fun e1 e2 => elP_trans (h.2.1 e1 e2) (g.2.1 e1 e2), fun e1 e2 e3 => ?_⟩
  · have h := h.1 e
    have g := g.1 e
    exact ⟨h.1.trans g.1, h.2.1.trans g.2.1, h.2.2.trans g.2.2⟩
  · have h := h.2.2 e1 e2 e3
    have g := g.2.2 e1 e2 e3
    exact ⟨h.1.trans g.1, h.2.trans g.2⟩
section
variable {f : List Node}
theorem right_nd (hr : rightP f) (a : Int) : ndA (nodeAt f a) := by
  by_cases ha : inR f a
  · have h := (right_node hr ha).1.1.2.2
    unfold attrsB at h
    rw [Bool.and_eq_true] at h
    exact nodup_sig (attrsGo_nodup _ _ h.2).1
  · rw [node_out ha]
    exact List.nodup_nil
theorem eqN_refl (hr : rightP f) : ∀ a, EqN f a a := right_ind hr _ fun a ih => .mk a a ⟨rfl, cmpP_refl _ _⟩ rfl fun j h0 h1 => ih _ (atI_mem h0 h1)
theorem eqN_symm (hr : rightP f) {a b : Int} (h : EqN f a b) : EqN f b a := by
  induction h with
  | mk a b h hl hk ih => exact .mk b a ⟨h.1.symm, h.1 ▸ cmpP_symm (right_nd hr a) h.2⟩ hl.symm fun j h0 h1 => ih j h0 (by rw [hl]; exact h1)
theorem eqN_trans {a b c : Int} (h : EqN f a b) (g : EqN f b c) : EqN f a c := by
  induction h generalizing c with
  | mk a b h hl hk ih =>
    cases g with
    | mk _ _ g gl gk => exact .mk a c ⟨h.1.trans g.1, cmpP_trans h.2 (h.1 ▸ g.2)⟩ (hl.trans gl) fun j h0 h1 => ih j h0 h1 (gk j h0 (by rw [← hl]; exact h1))
end
noncomputable def eqR (f : List Node) (a b : Int) : Bool := if faultR f [a, b] = 0 then dec (EqN f a b) else false
theorem faultR_right {f : List Node} {l : List Int} (h : faultR f l = 0) : rightP f := by
  unfold faultR at h
  by_cases hr : rightP f
  · exact hr
  · rw [if_neg (by rw [dec_true]; exact hr)] at h
    cases h
theorem faultR_comm (f : List Node) (a b : Int) : faultR f [a, b] = faultR f [b, a] := by
  unfold faultR
  rw [show ([a, b].all fun h => inB f h) = ([b, a].all fun h => inB f h) by simp [Bool.and_comm]]
theorem equalR_c (f : List Node) (a b : Int) (hf : Fit f) : PureC Tryz.prog 18 [fav f, iav a, iav b] (.tup [bav (eqR f a b), iav (faultR f [a, b])]) := by
  unfold eqR
  by_cases h : faultR f [a, b] = 0
  · rw [if_pos h, h]
    exact equal_c f a b _ hf (equal_all f hf (faultR_right h) a b) h
  · rw [if_neg h]
    exact equalF_c f a b hf h
/-- The law of equality, whole: of every forest that is short enough to be. -/
theorem equality_all (f : List Node) (a b c : Int) (hf : Fit f) : PureC Tryz.prog 8 [fav f, iav a, iav b, iav c] (bav true) := by
  refine equality_c f a b c _ _ _ _ _ _ _ _ _ _ begins_true (equalR_c f a b hf) (equalR_c f b a hf) (equalR_c f b c hf) (equalR_c f a c hf) (equalR_c f a a hf) ?_ (faultR_comm f a b) ?_ ?_
  · intro h
    unfold eqR
    rw [if_pos h, dec_true]
    exact eqN_refl (faultR_right h) a
  · unfold eqR
    rw [faultR_comm f a b]
    split
    · rename_i h
      rw [Bool.eq_iff_iff, dec_true, dec_true]
      exact ⟨eqN_symm (faultR_right h), eqN_symm (faultR_right h)⟩
    · rfl
  · intro h1 h2 h3 h4 h5
    unfold eqR at *
    rw [if_pos h1, dec_true] at h4
    rw [if_pos h2, dec_true] at h5
    rw [if_pos h3, dec_true]
    exact eqN_trans h4 h5
end Go.Proofs.YteijifoobaoclaaGreat.A
namespace Go.Proofs.YteijifoobaoclaaGreat.A
open Go.RowKit
set_option linter.unusedVariables false
set_option linter.unusedSimpArgs false
variable {P : Program} {α β : Type}
def noX : Nat → Prop := fun _ => False
theorem bulk_part {H : Type} {d : DataW H} {l : List (DataW H)} (h : d ∈ l) : Rows.uptoBulk d ≤ Rows.uptoBulkAll l := by
  induction l with
  | nil => cases h
  | cons x r ih =>
    simp only [Rows.uptoBulkAll]
    cases List.mem_cons.1 h with
    | inl e => subst e; omega
    | inr e => have := ih e; omega
theorem bulk_pos {H : Type} (d : DataW H) : 1 ≤ Rows.uptoBulk d := by
  cases d with
  | lit l => cases l <;> simp [Rows.uptoBulk]
  | nil => simp [Rows.uptoBulk]
  | ptr d => simp [Rows.uptoBulk]
  | slice elems spare => simp [Rows.uptoBulk]
  | agg parts => simp [Rows.uptoBulk]
  | iface t d => simp [Rows.uptoBulk]
  | map entries => simp [Rows.uptoBulk]
  | held h => simp [Rows.uptoBulk]
theorem bulk_length {H : Type} (l : List (DataW H)) : l.length ≤ Rows.uptoBulkAll l := by
  induction l with
  | nil => simp [Rows.uptoBulkAll]
  | cons x r ih => have := bulk_pos x; simp only [Rows.uptoBulkAll, List.length_cons]; omega
/-- type t's data reads as some a, which is rd a in cells; a fits: Fit, of a and the data's bulk. -/
structure Opens (P : Program) (t : TypeId) (rd : α → List IV) (sz : Nat) (Fit : α → Nat → Prop) : Prop where
  len : ∀ a, (rd a).length = sz
  get : ∀ {H : Type} {enc : TypeId × Value → H} {w : World} {spare : Nat → Bool} {held : Bool} {fuel : Nat} {cs : List Value} {x : DataW H × List MemPlace},
    DataW.trod enc P w 0 spare held fuel t cs = some x → ∃ a : α, All2 (RepI w noX) (rd a) cs ∧ Fit a (Rows.uptoBulk x.1)
  mono : ∀ {a : α} {b b' : Nat}, b ≤ b' → Fit a b → Fit a b'
theorem Opens.int {t : TypeId} {k : IntKind} (ht : P.underlying t = some (.int k)) : Opens P t (fun n : Int => [.int k n]) 1 (fun _ _ => True) where
  len := fun _ => rfl
  mono := fun _ h => h
  get := by
    intro H enc w spare held fuel cs x h
    obtain ⟨n, rfl, rfl, hw⟩ := DataW.trod_int ht h
    exact ⟨n, .cons (.int _ _) .nil, trivial⟩
theorem Opens.bool {t : TypeId} (ht : P.underlying t = some .bool) : Opens P t (fun b : Bool => [.bool b]) 1 (fun _ _ => True) where
  len := fun _ => rfl
  mono := fun _ h => h
  get := by
    intro H enc w spare held fuel cs x h
    obtain ⟨n, rfl, rfl⟩ := DataW.trod_bool ht h
    exact ⟨n, .cons (.bool _) .nil, trivial⟩
theorem Opens.string {t : TypeId} (ht : P.underlying t = some .string) : Opens P t (fun s : ByteArray => [.str s]) 1 (fun _ _ => True) where
  len := fun _ => rfl
  mono := fun _ h => h
  get := by
    intro H enc w spare held fuel cs x h
    obtain ⟨n, rfl, rfl, hw⟩ := DataW.trod_string ht h
    exact ⟨n, .cons (.str _) .nil, trivial⟩
theorem pick_list {Q : Nat → α → Prop} : ∀ n : Nat, (∀ i, i < n → ∃ p, Q i p) → ∃ xs : List α, xs.length = n ∧ ∀ i p, xs[i]? = some p → Q i p
  | 0, _ => ⟨[], rfl, fun i p h => by simp at h⟩
  | n + 1, h => by
    obtain ⟨xs, hl, hq⟩ := pick_list n (fun i hi => h i (by omega))
    obtain ⟨p, hp⟩ := h n (by omega)
    refine ⟨xs ++ [p], by simp [hl], fun i q hi => ?_⟩
    by_cases e : i < xs.length
    · rw [List.getElem?_append_left e] at hi
      exact hq i q hi
    · have hlt := (List.getElem?_eq_some_iff.1 hi).1
      simp [hl] at hlt
      obtain rfl : i = n := by omega
      rw [List.getElem?_append_right (by omega), hl, Nat.sub_self] at hi
      simp at hi
      subst hi
      exact hp
theorem all2_pairs {R : IV → Value → Prop} {rd : α → List IV} : ∀ {l : List (α × List Value)}, (∀ p ∈ l, All2 R (rd p.1) p.2) → All2 R ((l.map Prod.fst).map rd).flatten (l.map Prod.snd).flatten
  | [], _ => .nil
  | p :: r, h => by
    simp only [List.map_cons, List.flatten_cons]
    exact (h p (by simp)).append (all2_pairs fun q hq => h q (by simp [hq]))
theorem add_addA (a : Addr) (i j : Nat) : (a.add i).add j = a.add (i + j) := by
  unfold Addr.add
  by_cases hi : i = 0
  · subst hi; simp
  · by_cases hj : j = 0
    · subst hj; simp
    · simp [hi, hj, Nat.add_assoc]
theorem Opens.slice {t e : TypeId} {rd : α → List IV} {sz : Nat} {Fit : α → Nat → Prop} (ht : P.underlying t = some (.slice e)) (hc : P.cellsOf e = sz) (hsz : 0 < sz) (he : Opens P e rd sz Fit) :
    Opens P t (fun xs : List α => [.sl (xs.map rd)]) 1 (fun xs b => xs.length < b ∧ ∀ x ∈ xs, Fit x b) where
  len := fun _ => rfl
  mono := fun h h2 => ⟨Nat.lt_of_lt_of_le h2.1 h, fun x hx => he.mono h (h2.2 x hx)⟩
  get := by
    intro H enc w spare held fuel cs x h
    rcases DataW.trod_slice ht h with ⟨rfl, rfl⟩ | ⟨a, len, cap, elems, rest, n, _, rfl, rfl, hb, hl, hm, hlen, hel, _, _⟩
    · exact ⟨[], .cons (.nil _ _) .nil, by simp [Rows.uptoBulk]⟩
    · have each : ∀ i : Nat, i < len → ∃ p : α × List Value, All2 (RepI w noX) (rd p.1) p.2 ∧ p.2.length = sz ∧ (∀ j u, p.2[j]? = some u → w.cell? (a.add (i * sz + j)) = some u) ∧ ∃ y : DataW H × List MemPlace, elems[i]? = some y ∧ Fit p.1 (Rows.uptoBulk y.1) := by
        intro i hi
        have h1 := hel i hi
        obtain ⟨y, hy⟩ : ∃ y, elems[i]? = some y := ⟨_, List.getElem?_eq_getElem (by omega)⟩
        rw [hy, hc] at h1
        obtain ⟨c, hcs, htr⟩ := Option.bind_eq_some_iff.1 h1
        obtain ⟨p, hK, hF⟩ := he.get htr
        have hcl : c.length = sz := by rw [← hK.length, he.len]
        refine ⟨(p, c), hK, hcl, fun j u hj => ?_, y, hy, hF⟩
        unfold World.cells? at hcs
        rw [if_pos (Nat.zero_le _)] at hcs
        have hj2 : j < sz := by
          have := (List.getElem?_eq_some_iff.1 hj).1
          rw [← hcl]
          exact this
        have := mapM_some_get hcs j j (List.getElem?_range hj2)
        rw [← add_addA, this, hj]
      obtain ⟨xs, hxl, hxq⟩ := pick_list len each
      have hall : ∀ p ∈ xs, ∃ i, xs[i]? = some p := fun p hp => by
        obtain ⟨j, hj, rfl⟩ := List.getElem_of_mem hp
        exact ⟨j, List.getElem?_eq_getElem hj⟩
      refine ⟨xs.map Prod.fst, .cons ?_ .nil, ?_, ?_⟩
      · by_cases h0 : xs = []
        · subst h0
          simp at hxl
          subst hxl
          exact .nil _ _
        · have hr2 : ∀ r ∈ xs.map Prod.snd, r.length = sz := by
            intro r hr
            obtain ⟨p, hp, rfl⟩ := List.mem_map.1 hr
            obtain ⟨i, hi⟩ := hall p hp
            exact (hxq i p hi).2.1
          refine .sl _ a len cap sz (xs.map Prod.snd).flatten (by simpa using h0) hsz (by simp [hxl]) hl (fun h => h) ?_ ?_ (all2_pairs fun p hp => ?_)
          · intro r hr
            obtain ⟨p, _, rfl⟩ := List.mem_map.1 hr
            exact he.len p
          · intro k u hk
            have hk2 := (List.getElem?_eq_some_iff.1 hk).1
            rw [flat_len hr2] at hk2
            have hdm : k = k / sz * sz + k % sz := by rw [Nat.mul_comm]; exact (Nat.div_add_mod k sz).symm
            have hlt : k / sz < (xs.map Prod.snd).length := (Nat.div_lt_iff_lt_mul hsz).2 hk2
            obtain ⟨r, hr⟩ : ∃ r, (xs.map Prod.snd)[k / sz]? = some r := ⟨_, List.getElem?_eq_getElem hlt⟩
            have hg := flat_get hr2 hr (Nat.mod_lt k hsz)
            rw [← hdm, hk] at hg
            rw [List.getElem?_map] at hr
            obtain ⟨p, hp, rfl⟩ := Option.map_eq_some_iff.1 hr
            have := (hxq _ p hp).2.2.1 _ u hg.symm
            rw [← hdm] at this
            exact this
          · obtain ⟨i, hi⟩ := hall p hp
            exact (hxq i p hi).1
      · have h1 := bulk_length (elems.map (·.1))
        simp [Rows.uptoBulk] at h1 ⊢
        omega
      · intro p hp
        obtain ⟨q, hq, rfl⟩ := List.mem_map.1 hp
        obtain ⟨i, hi⟩ := hall q hq
        obtain ⟨_, _, _, y, hy, hF⟩ := hxq i q hi
        refine he.mono ?_ hF
        have hm : y.1 ∈ elems.map (·.1) := List.mem_map_of_mem (List.mem_of_getElem? hy)
        have := bulk_part hm
        simp only [Rows.uptoBulk]
        omega
/-- fields in line, from cell o on -/
structure OpensF (P : Program) (fs : List Field) (o : Nat) (rd : α → List IV) (sz : Nat) (Fit : α → Nat → Prop) : Prop where
  len : ∀ a, (rd a).length = sz
  get : ∀ {H : Type} {enc : TypeId × Value → H} {w : World} {spare : Nat → Bool} {held : Bool} {fuel : Nat} {cs : List Value} {xs : List (DataW H × List MemPlace)}, cs.length = o + sz →
    (fs.mapM fun f => DataW.trod enc P w 0 spare held fuel f.type ((cs.drop f.offset).take (P.cellsOf f.type))) = some xs → ∃ a : α, All2 (RepI w noX) (rd a) (cs.drop o) ∧ Fit a (Rows.uptoBulkAll (xs.map (·.1)))
  mono : ∀ {a : α} {b b' : Nat}, b ≤ b' → Fit a b → Fit a b'
theorem OpensF.one {f : Field} {o : Nat} {rd : α → List IV} {sz : Nat} {Fit : α → Nat → Prop} (h : Opens P f.type rd sz Fit) (ho : f.offset = o) (hc : P.cellsOf f.type = sz) : OpensF P [f] o rd sz Fit where
  len := h.len
  mono := h.mono
  get := by
    intro H enc w spare held fuel cs xs hl hx
    have h0 := mapM_some_get hx 0 f rfl
    have hlen := mapM_some_length hx
    obtain ⟨y, rfl⟩ : ∃ y, xs = [y] := by
      match xs, hlen with
      | [y], _ => exact ⟨y, rfl⟩
    simp at h0
    rw [ho, hc, List.take_of_length_le (by simp; omega)] at h0
    obtain ⟨a, hK, hF⟩ := h.get h0
    exact ⟨a, hK, h.mono (by simp [Rows.uptoBulkAll]) hF⟩
theorem OpensF.cons {f : Field} {fs : List Field} {o : Nat} {rd : α → List IV} {rd2 : β → List IV} {sz sz2 : Nat} {Fit : α → Nat → Prop} {Fit2 : β → Nat → Prop} (h : Opens P f.type rd sz Fit) (ho : f.offset = o) (hc : P.cellsOf f.type = sz) (h2 : OpensF P fs (o + sz) rd2 sz2 Fit2) :
    OpensF P (f :: fs) o (fun p : α × β => rd p.1 ++ rd2 p.2) (sz + sz2) (fun x b => Fit x.1 b ∧ Fit2 x.2 b) where
  len := fun p => by rw [List.length_append, h.len, h2.len]
  mono := fun hb hf => ⟨h.mono hb hf.1, h2.mono hb hf.2⟩
  get := by
    intro H enc w spare held fuel cs xs hl hx
    have hlen := mapM_some_length hx
    obtain ⟨y, ys, rfl⟩ : ∃ y ys, xs = y :: ys := by
      match xs, hlen with
      | y :: ys, _ => exact ⟨y, ys, rfl⟩
    have h0 := mapM_some_get hx 0 f rfl
    simp at h0
    rw [ho, hc] at h0
    obtain ⟨a, hK, hF⟩ := h.get h0
    have hx2 : (fs.mapM fun f => DataW.trod enc P w 0 spare held fuel f.type ((cs.drop f.offset).take (P.cellsOf f.type))) = some ys := by
      simp only [List.mapM_cons, Option.bind_eq_bind, Option.bind_eq_some_iff] at hx
      obtain ⟨y', hy', ys', hys, he⟩ := hx
      simp at he
      rw [hys, he.2]
    obtain ⟨b, hK2, hF2⟩ := h2.get (by rw [hl]; omega) hx2
    refine ⟨(a, b), ?_, h.mono (by simp [Rows.uptoBulkAll]) hF, h2.mono (by simp [Rows.uptoBulkAll]) hF2⟩
    have := hK.append hK2
    rw [← List.drop_drop, List.take_append_drop] at this
    exact this
theorem Opens.struct {t : TypeId} {fs : Array Field} {rd : α → List IV} {sz : Nat} {Fit : α → Nat → Prop} (ht : P.underlying t = some (.struct fs)) (hf : OpensF P fs.toList 0 rd sz Fit) (hc : P.cellsOf t = sz) : Opens P t rd sz Fit where
  len := hf.len
  mono := fun hb h => hf.mono hb h
  get := by
    intro H enc w spare held fuel cs x h
    cases fuel with
    | zero => simp [DataW.trod] at h
    | succ n =>
      unfold DataW.trod at h
      rw [ht] at h
      simp only at h
      split at h
      · rename_i hl
        obtain ⟨xs, hxs, rfl⟩ := Option.map_eq_some_iff.1 h
        obtain ⟨a, hK, hF⟩ := hf.get (by rw [hl, hc]; omega) hxs
        refine ⟨a, by simpa using hK, hf.mono (by simp [Rows.uptoBulk]) hF⟩
      · cases h
theorem Opens.iso {t : TypeId} {rd : α → List IV} {rd' : β → List IV} {sz : Nat} {Fit : α → Nat → Prop} {Fit' : β → Nat → Prop} (h : Opens P t rd sz Fit) (g : α → β) (hr : ∀ a, rd' (g a) = rd a) (gi : β → α) (hg : ∀ b, g (gi b) = b) (hf : ∀ a b, Fit a b → Fit' (g a) b) (hm : ∀ {a : β} {b b' : Nat}, b ≤ b' → Fit' a b → Fit' a b') : Opens P t rd' sz Fit' where
  len := fun b => by rw [← hg b, hr]; exact h.len _
  mono := hm
  get := by
    intro H enc w spare held fuel cs x hx
    obtain ⟨a, h1, h2⟩ := h.get hx
    exact ⟨g a, by rw [hr]; exact h1, hf _ _ h2⟩
end Go.Proofs.YteijifoobaoclaaGreat.A
namespace Go.Proofs.YteijifoobaoclaaGreat.A
open Go.RowKit
set_option linter.unusedVariables false
set_option linter.unusedSimpArgs false
theorem opName : Opens Tryz.prog 45 Name.iv 3 (fun _ _ => True) :=
  (Opens.struct Tryz.underlying45 (.cons (.string Tryz.underlying9) rfl (by kernel_rfl) (.cons (.string Tryz.underlying9) rfl (by kernel_rfl) (.one (.string Tryz.underlying9) rfl (by kernel_rfl)))) (by kernel_rfl)).iso
    (fun p => ⟨p.1, p.2.1, p.2.2⟩) (fun _ => rfl) (fun n => (n.sp, n.pf, n.lc)) (fun _ => rfl) (fun _ _ _ => trivial) (fun _ h => h)
theorem opAttr : Opens Tryz.prog 68 Attr.iv 4 (fun _ _ => True) :=
  (Opens.struct Tryz.underlying68 (.cons opName rfl (by kernel_rfl) (.one (.string Tryz.underlying9) rfl (by kernel_rfl))) (by kernel_rfl)).iso
    (fun p => ⟨p.1, p.2⟩) (fun _ => rfl) (fun n => (n.name, n.value)) (fun _ => rfl) (fun _ _ _ => trivial) (fun _ h => h)
theorem opNode : Opens Tryz.prog 52 Node.iv 16 (fun n b => n.data.length < b ∧ n.attrs.length < b ∧ n.kids.length < b) :=
  (Opens.struct Tryz.underlying52 (.cons (.int Tryz.underlying43) rfl (by kernel_rfl) (.cons opName rfl (by kernel_rfl) (.cons (.string Tryz.underlying9) rfl (by kernel_rfl) (.cons (.string Tryz.underlying9) rfl (by kernel_rfl)
    (.cons (.slice Tryz.underlying47 (by kernel_rfl) (by decide) (.int Tryz.underlying90)) rfl (by kernel_rfl) (.cons (.slice Tryz.underlying48 (by kernel_rfl) (by decide) opAttr) rfl (by kernel_rfl)
    (.cons (.int Tryz.underlying3) rfl (by kernel_rfl) (.cons (.slice Tryz.underlying49 (by kernel_rfl) (by decide) (.int Tryz.underlying3)) rfl (by kernel_rfl)
    (.cons (.int Tryz.underlying3) rfl (by kernel_rfl) (.cons (.int Tryz.underlying3) rfl (by kernel_rfl) (.cons (.int Tryz.underlying3) rfl (by kernel_rfl) (.cons (.int Tryz.underlying50) rfl (by kernel_rfl) (.cons (.bool Tryz.underlying4) rfl (by kernel_rfl) (.one (.bool Tryz.underlying4) rfl (by kernel_rfl))))))))))))))) (by kernel_rfl)).iso
    (fun p => ⟨p.1, p.2.1, p.2.2.1, p.2.2.2.1, p.2.2.2.2.1, p.2.2.2.2.2.1, p.2.2.2.2.2.2.1, p.2.2.2.2.2.2.2.1, p.2.2.2.2.2.2.2.2.1, p.2.2.2.2.2.2.2.2.2.1, p.2.2.2.2.2.2.2.2.2.2.1, p.2.2.2.2.2.2.2.2.2.2.2.1, p.2.2.2.2.2.2.2.2.2.2.2.2.1, p.2.2.2.2.2.2.2.2.2.2.2.2.2⟩) (fun _ => rfl)
    (fun n => (n.kind, n.name, n.pub, n.sys, n.data, n.attrs, n.parent, n.kids, n.doc, n.host, n.shadow, n.mode, n.manual, n.html)) (fun _ => rfl) (fun _ _ h => ⟨h.2.2.2.2.1.1, h.2.2.2.2.2.1.1, h.2.2.2.2.2.2.2.1.1⟩) (fun h h2 => ⟨Nat.lt_of_lt_of_le h2.1 h, Nat.lt_of_lt_of_le h2.2.1 h, Nat.lt_of_lt_of_le h2.2.2 h⟩)
theorem opForest : Opens Tryz.prog 24 (fun f : List Node => [.sl (f.map Node.iv)]) 1 (fun f b => f.length < b ∧ ∀ n ∈ f, n.data.length < b ∧ n.attrs.length < b ∧ n.kids.length < b) :=
  Opens.struct Tryz.underlying24 (.one (.slice Tryz.underlying22 (by kernel_rfl) (by decide) opNode) rfl (by kernel_rfl)) (by kernel_rfl)
theorem fit_bulk {f : List Node} {b : Nat} (hb : b ≤ 1048577) (h : f.length < b ∧ ∀ n ∈ f, n.data.length < b ∧ n.attrs.length < b ∧ n.kids.length < b) : Fit f :=
  ⟨by omega, fun n hn => by have := h.2 n hn; exact ⟨by omega, by omega, by omega⟩⟩
theorem argForest {w : World} {f : List Node} {cs : List Value} (h : All2 (RepI w noX) [.sl (f.map Node.iv)] cs) : RepA (M0 w noX) (fav f) (.agg cs.toArray) :=
  .agg _ _ (by
    cases h with
    | cons h1 h2 => cases h2; exact .cons (.imm _ _ h1) .nil)
theorem argInt {w : World} {k : IntKind} {n : Int} {v : Value} (h : All2 (RepI w noX) [.int k n] [v]) : RepA (M0 w noX) (.imm (.int k n)) v := by
  cases h with
  | cons h1 h2 => exact .imm _ _ h1
theorem argBool {w : World} {n : Bool} {v : Value} (h : All2 (RepI w noX) [.bool n] [v]) : RepA (M0 w noX) (.imm (.bool n)) v := by
  cases h with
  | cons h1 h2 => exact .imm _ _ h1
end Go.Proofs.YteijifoobaoclaaGreat.A
namespace Go.Proofs.YteijifoobaoclaaGreat.cloneEquality
open Go.ChangeShapes Go.WideShapes Go.ChangeAt Go.RowKit Go.Proofs.YteijifoobaoclaaGreat.A
set_option linter.unusedVariables false
theorem own : ownKnob Tryz.prog.godebug = none := by kernel_rfl
theorem laidOut : laidOutB Tryz.prog = true := by kernel_rfl
set_option maxRecDepth 100000 in
theorem contract (H : Type) (enc : TypeId × Value → H) (W : World) (base : Nat) (args : Array Value) (ds gs : List (DataW H)) (before : List MemPlace)
    (hval0 : ∀ (j : Nat) t v, Tryz.f8.params[j]? = some t → args[j]? = some v → Value.okWide Tryz.prog W .any base t v)
    (hW : DataW.Whole enc Tryz.prog Tryz.f8.params.toList Rows.cloneEqualitySpec.vars false W args.toList ds gs before) (hk : Rows.uptoSmall H (ds ++ gs) = true) :
    Calls Tryz.prog 8 args W fun e W' => ∃ v, e = .returned v ∧ Rows.cloneEqualitySpec.post enc Tryz.prog Tryz.f8 false true false false W args v W' := by
  have hval : ∀ (j : Nat) t v, Tryz.f8.params[j]? = some t → args[j]? = some v → Value.okWide Tryz.prog W .any base t v := hval0
  have hW' := hW
  obtain ⟨p, q, hA0, hV, rfl, hfz, hnd⟩ := hW
  have hA : DataW.TrodAll enc Tryz.prog W 0 (fun _ => true) true Tryz.f8.params.toList args.toList ds p := hA0
  rw [Tryz.params8] at hA hval
  obtain ⟨v0, vs0, d0, ds0, p0, q0, hargs, rfl, rfl, h0, r0⟩ := trodAll_cons hA
  obtain ⟨v1, vs1, d1, ds1, p1, q1, rfl, rfl, rfl, h1, r1⟩ := trodAll_cons r0
  obtain ⟨v2, vs2, d2, ds2, p2, q2, rfl, rfl, rfl, h2, r2⟩ := trodAll_cons r1
  obtain ⟨v3, vs3, d3, ds3, p3, q3, rfl, rfl, rfl, h3, r3⟩ := trodAll_cons r2
  obtain ⟨rfl, rfl, rfl⟩ := trodAll_nil r3
  obtain rfl : args = #[v0, v1, v2, v3] := by cases args; simp_all
  obtain ⟨rfl, rfl⟩ := trodVars_none hV
  have hb : Rows.uptoBulkAll ([d0, d1, d2, d3] : List (DataW H)) ≤ 1048576 := by
    have h_ := of_decide_eq_true hk
    simpa only [List.append_nil] using h_
  clear hk
  have lt0 : ∀ x ∈ p0, x.block < W.heap.size := by obtain ⟨m, hm⟩ := h0; exact DataW.trod_lt m _ _ _ hm
  have lt1 : ∀ x ∈ p1, x.block < W.heap.size := by obtain ⟨m, hm⟩ := h1; exact DataW.trod_lt m _ _ _ hm
  have lt2 : ∀ x ∈ p2, x.block < W.heap.size := by obtain ⟨m, hm⟩ := h2; exact DataW.trod_lt m _ _ _ hm
  have lt3 : ∀ x ∈ p3, x.block < W.heap.size := by obtain ⟨m, hm⟩ := h3; exact DataW.trod_lt m _ _ _ hm
  have b0 : Rows.uptoBulk d0 ≤ 1048576 := Nat.le_trans (bulk_part (by simp)) hb
  have k0 := h0
  have k1 := h1
  have k2 := h2
  have k3 := h3
  obtain ⟨m0, hm0⟩ := k0
  obtain ⟨f, K0, F0⟩ := opForest.get hm0
  replace F0 := opForest.mono (Nat.le_succ_of_le b0) F0
  obtain ⟨cs0, rfl, _⟩ := okWide_struct Tryz.underlying24 (hval 0 24 v0 rfl rfl)
  obtain ⟨m1, hm1⟩ := k1
  obtain ⟨x1, K1, _⟩ := (Opens.int Tryz.underlying3).get hm1
  obtain ⟨z1, rfl, _, _, _⟩ := open_int Tryz.underlying3 (hval 1 3 v1 rfl rfl) h1
  obtain ⟨m2, hm2⟩ := k2
  obtain ⟨x2, K2, _⟩ := (Opens.int Tryz.underlying3).get hm2
  obtain ⟨z2, rfl, _, _, _⟩ := open_int Tryz.underlying3 (hval 2 3 v2 rfl rfl) h2
  obtain ⟨m3, hm3⟩ := k3
  obtain ⟨x3, K3, _⟩ := (Opens.int Tryz.underlying3).get hm3
  obtain ⟨z3, rfl, _, _, _⟩ := open_int Tryz.underlying3 (hval 3 3 v3 rfl rfl) h3
  refine ((equality_all f x1 x2 x3 (fit_bulk (Nat.le_refl _) F0)).2 W noX _ (fun b h => h.elim) (.cons (argForest K0) (.cons (argInt K1) (.cons (argInt K2) (.cons (argInt K3) .nil))))).mono fun e W' ⟨x, he, bel, hx⟩ => ?_
  subst he
  obtain rfl : x = .bool true := by
    cases hx with
    | imm _ _ h => exact h.bool_inv
  exact ⟨_, rfl, _, _, _, [], _, [], hW', trodAll_mk1 (shut_bool Tryz.underlying4 _), (trodAll_cons_mk (Below.trod laidOut (by kernel_rfl) (of_decide_eq_true (by kernel_rfl)) h0 bel lt0) (trodAll_cons_mk (Below.trod laidOut (by kernel_rfl) (of_decide_eq_true (by kernel_rfl)) h1 bel lt1) (trodAll_cons_mk (Below.trod laidOut (by kernel_rfl) (of_decide_eq_true (by kernel_rfl)) h2 bel lt2) (trodAll_cons_mk (Below.trod laidOut (by kernel_rfl) (of_decide_eq_true (by kernel_rfl)) h3 bel lt3) trodAll_mk0)))), rfl, bel.frame _, fun h => by cases h⟩
set_option maxRecDepth 100000 in
theorem lifted (os : Os) (started : os.Started) (H : Type) (enc : TypeId × Value → H) (F : Stop.Interp) :
    ReturnsInHanded {} Tryz.checked os 8 .any ((Rows.OpenSpec.upto Rows.cloneEqualitySpec).pre6 enc Tryz.prog Tryz.f8 Rows.cloneEqualityUptoRow.domain false) (((Rows.OpenSpec.upto Rows.cloneEqualitySpec).at F).post enc Tryz.prog Tryz.f8 false true false false) := by
  refine returnsInHanded_of_cond (C := Tryz.checked) (s := Rows.OpenSpec.upto Rows.cloneEqualitySpec) (k := Rows.uptoSmall) rfl own started (by kernel_rfl) Tryz.func8
    (OpenSpec.witness (enc := enc) (C := Tryz.checked) (s := Rows.OpenSpec.upto Rows.cloneEqualitySpec) (k := Rows.uptoSmall) rfl false ⟨#[], #[.agg #[.slice none 0 0], .int .i64 0, .int .i64 0, .int .i64 0], []⟩ 8 (by kernel_rfl) (by kernel_rfl) (by kernel_rfl)
      (x := ([.agg [.nil], .lit (.int .i64 0), .lit (.int .i64 0), .lit (.int .i64 0)], [], [])) (by kernel_rfl) rfl (by kernel_rfl)) ?_
  intro W base args ds gs before hval hW _ hk _
  exact contract H enc W base args ds gs before hval hW hk
theorem over : Rows.cloneEqualityUptoRow.holds Tryz.pinned (Rows.OpenSpec.upto Rows.cloneEqualitySpec) :=
  OpenClaim.holds_of_cond 8 Tryz.f8 rfl rfl rfl rfl rfl rfl rfl ⟨rfl, rfl, rfl, rfl, rfl⟩ rfl rfl rfl rfl rfl (by kernel_rfl) Tryz.func8 (by kernel_rfl)
    (of_decide_eq_true (by kernel_rfl)) (by unfold Func.isWrapper; first | (rw [if_pos (by decide +kernel)]; kernel_rfl) | (rw [if_neg (by decide +kernel)]; exact ⟨rfl, rfl⟩))
    (fun os started H enc _ F => lifted os started H enc F)
end Go.Proofs.YteijifoobaoclaaGreat.cloneEquality
namespace Go.Proofs.YteijifoobaoclaaGreat
theorem cloneEquality_holds : Rows.CloneEqualityUptoSaid := cloneEquality.over
#print axioms cloneEquality_holds
end Go.Proofs.YteijifoobaoclaaGreat
