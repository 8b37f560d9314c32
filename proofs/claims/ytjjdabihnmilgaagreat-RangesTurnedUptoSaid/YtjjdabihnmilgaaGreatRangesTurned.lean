/- The law RangesTurned of package canopylaw16 is true for every input whose arguments hold together at most 1048576 values and letters: the statement 'RangesTurnedUptoSaid'. Conditions: that bound alone. -/
import Derived.Test.YtjjdabihnmilgaaGreatXRTGrpAU
import Derived.Test.YtjjdabihnmilgaaGreatXRTGrpAV
import Derived.Test.YtjjdabihnmilgaaGreatRows
import Derived.Test.YtjjdabihnmilgaaGreatXRTGrpAN
import Derived.ChangeArms
import Derived.WideShapes
import Derived.Test.YtjjdabihnmilgaaGreatXRTGrpAR
import Derived.WalkKit
import Derived.ProofKit
import Derived.OpenShut
import Derived.ShutString
import Derived.ChangeOld
import Derived.Below
import Derived.JoinedCond
namespace Go.Proofs.YtjjdabihnmilgaaGreat.A
open Go.RowKit
set_option linter.unusedVariables false
set_option linter.unusedSimpArgs false
set_option maxRecDepth 100000
set_option maxHeartbeats 4000000
theorem dec_dec (p : Prop) [Decidable p] : dec p = decide p := dec_eq p
/-- rightP, node by node. -/
theorem right_of {f : List Node} (h : f.length ≤ 4096) (h2 : ∀ j : Nat, j < f.length → okP f (j : Int) (atI f j)) : rightP f := ⟨h, fun i h0 h1 => by
  have := h2 i.toNat (by omega)
  rw [show ((i.toNat : Nat) : Int) = i by omega] at this
  exact this⟩
theorem sz0 : (⟨#[]⟩ : ByteArray).size = 0 := rfl
theorem szp : (⟨#[112]⟩ : ByteArray).size = 1 := rfl
def docN : Node := { n0 with kind := 9, kids := [2], doc := 1 }
def elN (ks : List Int) : Node := { n0 with kind := 1, name := ⟨es, es, ⟨#[112]⟩⟩, parent := 1, kids := ks, doc := 1 }
def txN (d : List Int) (p : Int) : Node := { n0 with kind := 3, data := d, parent := p, doc := 1 }
def sm : List Node := [docN, elN [3, 4], txN [65, 66] 2, txN [67, 68] 2]
def smR : List Node := [docN, elN [4], txN [65, 66] 0, txN [67, 68] 2]
theorem sm_right : rightP sm := by
  refine right_of (by decide) fun j hj => ?_
  have hj' : j < 4 := hj
  match j, hj' with
  | 0, _ =>
    refine ⟨?_, ?_, 1, ?_⟩
    · simp [madeP, m11, m27, m50, m77, m100, m200, sm, docN, elN, txN, atI, n0, traitsOf, namingB, namedB, shortB, attrsB, attrsGo, es, sz0, szp, dec_dec]
    · simp [linksP, l1, l2, l3, l4, kidsB, kidsGo, famB, famGo, nodeAt, inB, cntB, sm, docN, elN, txN, atI, n0, dec_dec]
    · simp [inR, itN, upN, aboveOf, sm, docN, elN, txN, atI, n0]
  | 1, _ =>
    refine ⟨?_, ?_, 2, ?_⟩
    · simp [madeP, m11, m27, m50, m77, m100, m200, sm, docN, elN, txN, atI, n0, traitsOf, namingB, namedB, shortB, attrsB, attrsGo, es, sz0, szp, dec_dec]
    · simp [linksP, l1, l2, l3, l4, kidsB, kidsGo, famB, famGo, nodeAt, inB, cntB, sm, docN, elN, txN, atI, n0, dec_dec]
    · simp [inR, itN, upN, aboveOf, sm, docN, elN, txN, atI, n0]
  | 2, _ =>
    refine ⟨?_, ?_, 3, ?_⟩
    · simp [madeP, m11, m27, m50, m77, m100, m200, sm, docN, elN, txN, atI, n0, traitsOf, namingB, namedB, shortB, attrsB, attrsGo, es, sz0, szp, dec_dec]
    · simp [linksP, l1, l2, l3, l4, kidsB, kidsGo, famB, famGo, nodeAt, inB, cntB, sm, docN, elN, txN, atI, n0, dec_dec]
    · simp [inR, itN, upN, aboveOf, sm, docN, elN, txN, atI, n0]
  | 3, _ =>
    refine ⟨?_, ?_, 3, ?_⟩
    · simp [madeP, m11, m27, m50, m77, m100, m200, sm, docN, elN, txN, atI, n0, traitsOf, namingB, namedB, shortB, attrsB, attrsGo, es, sz0, szp, dec_dec]
    · simp [linksP, l1, l2, l3, l4, kidsB, kidsGo, famB, famGo, nodeAt, inB, cntB, sm, docN, elN, txN, atI, n0, dec_dec]
    · simp [inR, itN, upN, aboveOf, sm, docN, elN, txN, atI, n0]
theorem smR_right : rightP smR := by
  refine right_of (by decide) fun j hj => ?_
  have hj' : j < 4 := hj
  match j, hj' with
  | 0, _ =>
    refine ⟨?_, ?_, 1, ?_⟩
    · simp [madeP, m11, m27, m50, m77, m100, m200, smR, docN, elN, txN, atI, n0, traitsOf, namingB, namedB, shortB, attrsB, attrsGo, es, sz0, szp, dec_dec]
    · simp [linksP, l1, l2, l3, l4, kidsB, kidsGo, famB, famGo, nodeAt, inB, cntB, smR, docN, elN, txN, atI, n0, dec_dec]
    · simp [inR, itN, upN, aboveOf, smR, docN, elN, txN, atI, n0]
  | 1, _ =>
    refine ⟨?_, ?_, 2, ?_⟩
    · simp [madeP, m11, m27, m50, m77, m100, m200, smR, docN, elN, txN, atI, n0, traitsOf, namingB, namedB, shortB, attrsB, attrsGo, es, sz0, szp, dec_dec]
    · simp [linksP, l1, l2, l3, l4, kidsB, kidsGo, famB, famGo, nodeAt, inB, cntB, smR, docN, elN, txN, atI, n0, dec_dec]
    · simp [inR, itN, upN, aboveOf, smR, docN, elN, txN, atI, n0]
  | 2, _ =>
    refine ⟨?_, ?_, 1, ?_⟩
    · simp [madeP, m11, m27, m50, m77, m100, m200, smR, docN, elN, txN, atI, n0, traitsOf, namingB, namedB, shortB, attrsB, attrsGo, es, sz0, szp, dec_dec]
    · simp [linksP, l1, l2, l3, l4, kidsB, kidsGo, famB, famGo, nodeAt, inB, cntB, smR, docN, elN, txN, atI, n0, dec_dec]
    · simp [inR, itN, upN, aboveOf, smR, docN, elN, txN, atI, n0]
  | 3, _ =>
    refine ⟨?_, ?_, 3, ?_⟩
    · simp [madeP, m11, m27, m50, m77, m100, m200, smR, docN, elN, txN, atI, n0, traitsOf, namingB, namedB, shortB, attrsB, attrsGo, es, sz0, szp, dec_dec]
    · simp [linksP, l1, l2, l3, l4, kidsB, kidsGo, famB, famGo, nodeAt, inB, cntB, smR, docN, elN, txN, atI, n0, dec_dec]
    · simp [inR, itN, upN, aboveOf, smR, docN, elN, txN, atI, n0]
theorem sm_fit : Fit sm := ⟨by decide, fun n hn => by
  simp only [sm, List.mem_cons, List.not_mem_nil, or_false] at hn
  rcases hn with rfl | rfl | rfl | rfl <;> exact ⟨by decide, by decide, by decide⟩⟩
theorem sm_c : PureC Tryz.prog 40 [] (fav sm) := by
  refine PureC.mk tabs Tryz.func40 12 [.cell 0 24] rfl rfl rfl rfl rfl ?_; intro w0 X
  (repeat' (first | ((with_reducible show AL _ _ _ _ _); first | (refine AL.step tabs rfl ?_; try dsimp only [len, List.nil_append, List.cons_append]) | refine AL.nil ?_) | refine AW.seq ?_ | refine AW.region ?_ | refine Then.norm ?_ | refine AW.skip ?_ | refine AW.ret ?_ | refine Then.ret ?_))
  refine RQ.ret rfl (Fz.agg (.cons (Fz.osN (rows := sm.map Node.iv) (hb := rfl) (hver := ?_) (hlen := ?_) (hrl := ?_) (hr := ?_)) .nil))
  · rfl
  · rfl
  · intro r hr
    obtain ⟨n, _, rfl⟩ := List.mem_map.1 hr
    rfl
  repeat' (first | exact All2.nil | refine All2.cons ?_ ?_)
  all_goals first
    | exact FzI.imm _
    | exact FzI.of (Fz.cv rfl)
    | (refine FzI.of (Fz.os (hb := rfl) (hver := ?_) (hr := ?_)) <;> rfl)
def smC : Change := { c0 with kind := 3, node := 3, parent := 2 }
def smr : Rng := ⟨⟨3, 1⟩, ⟨4, 1⟩⟩
theorem up3 : ups sm 3 = [3, 2, 1] := ups_eq (m := 3) (.inr (.inr (.inr rfl)))
theorem up4 : ups sm 4 = [4, 2, 1] := ups_eq (m := 3) (.inr (.inr (.inr rfl)))
theorem rt3 : rootP sm 3 = 1 := by unfold rootP; rw [up3]; rfl
theorem rt4 : rootP sm 4 = 1 := by unfold rootP; rw [up4]; rfl
theorem hg1 : Hgt sm 3 1 := by
  intro k hk
  have : k = 2 := by simpa [nodeAt, sm, docN, atI] using hk
  subst this
  intro k hk
  have : k = 3 ∨ k = 4 := by simpa [nodeAt, sm, elN, atI] using hk
  rcases this with rfl | rfl
  · intro k hk
    have : k ∈ ([] : List Int) := hk
    cases this
  · intro k hk
    have : k ∈ ([] : List Int) := hk
    cases this
theorem beh34 : behP sm 3 4 = false := by
  unfold behP
  rw [rt3, wth_eq hg1]
  rfl
theorem bel34 : belowP sm 3 4 = 0 := by unfold belowP; rw [up4]; rfl
theorem len3 : lenP sm 3 = 2 := by simp [lenP, dataB, textB, nodeAt, sm, txN, atI, dec_dec]
theorem len4 : lenP sm 4 = 2 := by simp [lenP, dataB, textB, nodeAt, sm, txN, atI, dec_dec]
theorem len1 : lenP sm 1 = 1 := by simp [lenP, dataB, textB, nodeAt, sm, docN, atI, dec_dec]
theorem pos34 : posP sm ⟨3, 1⟩ ⟨4, 1⟩ = -1 := by
  unfold posP posD
  rw [beh34, bel34]
  simp
theorem smr_ok : rngOK sm smr := ⟨⟨⟨by decide, by decide⟩, by decide, by rw [show smr.s.n = 3 from rfl, len3]; decide⟩, ⟨⟨by decide, by decide⟩, by decide, by rw [show smr.e.n = 4 from rfl, len4]; decide⟩, by rw [show smr.s.n = 3 from rfl, show smr.e.n = 4 from rfl, rt3, rt4], by rw [show smr.s = ⟨3, 1⟩ from rfl, show smr.e = ⟨4, 1⟩ from rfl, pos34]; decide⟩
theorem sm_fg (l : List Rng) (ns : List Int) (hl : ∀ r ∈ l, r = smr) (hn : ∀ x ∈ ns, inR sm x) : faultG sm l ns = 0 := faultG_zero.2 ⟨sm_right, fun r hr => hl r hr ▸ smr_ok, hn⟩
theorem sm_done : PureC Tryz.prog 45 [fav sm, smC.av] (.tup [fav smR, iav 0]) := by
  have := doneRm_c sm smC sm_fit (by decide) rfl rfl (by decide) (by decide) (by decide) (by decide) (by decide) (by decide) rfl
  have e : doneX sm smC = (smR, 0) := by
    unfold doneX
    rw [show remFM sm smC.node smC.parent smC.index = smR from rfl, if_pos (by rw [dec_true]; exact smR_right)]
  rw [e] at this
  exact this
theorem sm_apply : PureC Tryz.prog 50 [fav sm, smC.av] (.tup [fav smR, iav 0]) := apply_c sm smR smC 0 sm_fit sm_right sm_done
theorem in1 : inR sm 1 := ⟨by decide, by decide⟩
theorem in4 : inR sm 4 := ⟨by decide, by decide⟩
theorem sm_all : PureC Tryz.prog 12 [fav sm, .imm (.sl ([smC].map Change.iv))] (.tup [fav smR, iav 1, iav 0]) := all_c sm smR [smC] sm_fit sm_right (by decide) (by decide) ⟨smR, sm_done, rfl⟩
theorem sm_adj : PureC Tryz.prog 42 [fav sm, smr.av, smC.av] (.tup [(⟨⟨2, 0⟩, ⟨4, 1⟩⟩ : Rng).av, iav 0]) := by
  have := adjust_c sm smR smC smr sm_fit sm_right rfl (sm_fg _ _ (by simp) (by simp)) sm_all sm_apply
  have e : movG sm smC smr = ⟨⟨2, 0⟩, ⟨4, 1⟩⟩ := by
    unfold movG movR
    rw [show smC.node = 3 from rfl, show smr.s.n = 3 from rfl, show smr.e.n = 4 from rfl, up3, up4, if_pos (by rw [dec_true]; decide), if_neg (by rw [dec_true]; decide), if_neg (by decide)]
    rfl
  rw [e] at this
  exact this
theorem sm_start : PureC Tryz.prog 18 [fav sm, smr.av, (⟨1, 9⟩ : Bnd).av] (.tup [r0.av, iav 14]) := by
  have := start_c sm smr ⟨1, 9⟩ sm_fit
  have e : setW sm smr ⟨1, 9⟩ = 14 := by
    unfold setW
    rw [sm_fg _ _ (by simp) (by simpa using in1), if_neg (by omega), if_neg (by decide), faultB_in sm_right (by simpa using in1), if_neg (by
      rw [dec_true]
      intro h
      have := (h ⟨1, 9⟩ (by simp)).2
      rw [show (⟨1, 9⟩ : Bnd).n = 1 from rfl, len1] at this
      exact absurd this (by decide))]
  have e2 : setV sm true smr ⟨1, 9⟩ = r0 := by unfold setV; rw [e, if_pos (by decide)]
  rw [e, e2] at this
  exact this
theorem sm_cmp : PureC Tryz.prog 17 [fav sm, iav 4, smr.av, smr.av] (.tup [iav 0, iav 17]) := by
  have := compare_c sm 4 smr smr sm_fit
  have e : cmpG sm 4 smr smr = (0, 17) := by
    unfold cmpG
    rw [sm_fg _ _ (by simp) (by simp), if_neg (by omega), if_pos (by omega)]
  rw [e] at this
  exact this
theorem sm_sel : PureC Tryz.prog 31 [fav sm, smr.av, iav 4] (.tup [(⟨⟨2, 1⟩, ⟨2, 2⟩⟩ : Rng).av, iav 0]) := by
  have := select_c sm smr 4 sm_fit
  have e : selW sm smr 4 = 0 := by
    unfold selW
    rw [sm_fg _ _ (by simp) (by simpa using in4), if_neg (by omega), if_neg (by decide)]
  have e2 : selV sm smr 4 = ⟨⟨2, 1⟩, ⟨2, 2⟩⟩ := by
    unfold selV
    rw [e, if_neg (by decide)]
    rfl
  rw [e, e2] at this
  exact this
theorem begins_true : PureC Tryz.prog 11 [] (bav true) := by
  have cR := rRight_c sm sm_fit
  rw [show dec (rightP sm) = true by rw [dec_true]; exact sm_right] at cR
  have h1 := sm_c
  have h2 := sm_adj
  have h3 := sm_start
  have h4 := sm_cmp
  have h5 := sm_sel
  refine PureC.mk tabs Tryz.func11 73 [.tmp 0] rfl rfl rfl rfl rfl ?_; intro w0 X
  (repeat' (first | ((with_reducible show AL _ _ _ _ _); first | (refine AL.step tabs rfl ?_; try dsimp only [len, List.nil_append, List.cons_append]) | refine AL.op rfl (OpOK.call rfl rfl rfl rfl h1 rfl) ?_ | refine AL.op rfl (OpOK.call rfl rfl rfl rfl cR rfl) ?_ | refine AL.op rfl (OpOK.callcv rfl rfl rfl rfl rfl h2 rfl) ?_ | refine AL.op rfl (OpOK.call rfl rfl rfl rfl h3 rfl) ?_ | refine AL.op rfl (OpOK.call rfl rfl rfl rfl h4 rfl) ?_ | refine AL.op rfl (OpOK.call rfl rfl rfl rfl h5 rfl) ?_ | refine AL.nil ?_ | (refine AL.gsplitE rfl rfl rfl (fun hc => ?_) (fun hc => ?_) <;> (fail_if_success (exact absurd hc (by decide))) <;> (try simp only [hsx] at hc) <;> (try first | (exfalso; omega) | contradiction | (exfalso; simp [dec_eq] at hc; done))) | (refine AL.op rfl (OpOK.eqs rfl rfl rfl rfl eqt41 rfl rfl) ?_)) | (exfalso; omega) | refine AW.seq ?_ | refine AW.region ?_ | refine Then.norm ?_ | refine AW.skip ?_ | refine AW.condT rfl ?_ | refine AW.condF rfl ?_ | (refine AW.cond rfl (fun hc => ?_) (fun hc => ?_) <;> (try simp only [hsx] at hc) <;> (try first | (exfalso; omega) | contradiction | (exfalso; simp [dec_eq] at hc; done))) | refine AW.ret ?_ | refine Then.ret ?_))
  all_goals first
    | exact RQ.fin rfl rfl rfl
    | (refine RQ.fin rfl rfl (congrArg bav ?_); simp [dec_eq]; done)
    | (exfalso; simp_all [dec_eq]; done)
    | (trace_state; sorry)
end Go.Proofs.YtjjdabihnmilgaaGreat.A
namespace Go.Proofs.YtjjdabihnmilgaaGreat.A
open Go.RowKit
set_option linter.unusedVariables false
set_option linter.unusedSimpArgs false
set_option maxRecDepth 100000
set_option maxHeartbeats 4000000
theorem all_inB {f : List Node} {l m : List Int} (h : ∀ x, x ∈ l ↔ x ∈ m) : faultR f l = faultR f m := by
  unfold faultR
  have : (l.all fun h => inB f h) = m.all fun h => inB f h := by
    rw [Bool.eq_iff_iff, List.all_eq_true, List.all_eq_true]
    exact ⟨fun k x hx => k x ((h x).2 hx), fun k x hx => k x ((h x).1 hx)⟩
  rw [this]
theorem faultG_swap (f : List Node) (r s : Rng) : faultG f [s, r] [] = faultG f [r, s] [] := by
  unfold faultG
  have e1 : faultR f (nodesR [s, r] ++ []) = faultR f (nodesR [r, s] ++ []) := all_inB fun x => by simp [nodesR]; grind
  have e2 : (∀ q ∈ [s, r], okB f q.s ∧ okB f q.e) ↔ ∀ q ∈ [r, s], okB f q.s ∧ okB f q.e := by simp; grind
  have e3 : (∀ q ∈ [s, r], validP f q) ↔ ∀ q ∈ [r, s], validP f q := by simp; grind
  rw [e1, propext e2, propext e3]
theorem cmpR_zero {f : List Node} {a b : Bnd} (hr : rightP f) (ha : ptOK f a) (hb : ptOK f b) : cmpR f a b = if dec (rootP f a.n = rootP f b.n) = true then (posP f a b, 0) else (0, 18) := by
  unfold cmpR
  have e : faultB f [a, b] [] = 0 := by
    rw [faultB_in hr (by simp [ha.1, hb.1]), if_pos (by rw [dec_true]; intro x hx; simp only [List.mem_cons, List.not_mem_nil, or_false] at hx; rcases hx with rfl | rfl; exact ha.2; exact hb.2)]
  rw [if_neg (by rw [e]; omega)]
theorem cmpR_turn {f : List Node} {a b : Bnd} (hr : rightP f) (ha : ptOK f a) (hb : ptOK f b) : (cmpR f b a).2 = (cmpR f a b).2 ∧ (cmpR f a b).1 = -(cmpR f b a).1 ∧ -1 ≤ (cmpR f b a).1 ∧ (cmpR f b a).1 ≤ 1 := by
  rw [cmpR_zero hr ha hb, cmpR_zero hr hb ha]
  by_cases ho : rootP f a.n = rootP f b.n
  · have h1 := pos_turn hr ha.1 hb.1 ho
    have h2 := pos_vals f b a
    rw [if_pos (by rw [dec_true]; exact ho.symm), if_pos (by rw [dec_true]; exact ho)]
    show (0 : Int) = 0 ∧ posP f a b = -posP f b a ∧ -1 ≤ posP f b a ∧ posP f b a ≤ 1
    omega
  · rw [if_neg (by rw [dec_true]; exact fun e => ho e.symm), if_neg (by rw [dec_true]; exact ho)]
    simp
theorem turn_h (f : List Node) (r s : Rng) (hf : Fit f) (how back : Int) (hb : how = 0 ∧ back = 0 ∨ how = 1 ∧ back = 3 ∨ how = 2 ∧ back = 2 ∨ how = 3 ∧ back = 1) :
    ∃ n1 n2 w : Int, PureC Tryz.prog 17 [fav f, iav how, r.av, s.av] (.tup [iav n1, iav w]) ∧ PureC Tryz.prog 17 [fav f, iav back, s.av, r.av] (.tup [iav n2, iav w]) ∧ (w = 0 → n1 = -n2) ∧ -1000 ≤ n2 ∧ n2 ≤ 1000 := by
  have c1 := compare_c f how r s hf
  have c2 := compare_c f back s r hf
  have hsw := faultG_swap f r s
  by_cases hw : faultG f [r, s] [] = 0
  · obtain ⟨hr, hok, _⟩ := faultG_zero.1 hw
    have k1 := hok r (by simp)
    have k2 := hok s (by simp)
    have e1 : cmpG f how r s = cmpR f (pairL how r s) (pairR how r s) := by unfold cmpG; rw [if_neg (by omega), if_neg (by omega)]
    have e2 : cmpG f back s r = cmpR f (pairR how r s) (pairL how r s) := by
      unfold cmpG
      rw [if_neg (by omega), if_neg (by omega)]
      rcases hb with ⟨rfl, rfl⟩ | ⟨rfl, rfl⟩ | ⟨rfl, rfl⟩ | ⟨rfl, rfl⟩ <;> rfl
    have q1 : ptOK f (pairL how r s) := by
      rcases hb with ⟨rfl, rfl⟩ | ⟨rfl, rfl⟩ | ⟨rfl, rfl⟩ | ⟨rfl, rfl⟩
      · exact k1.1
      · exact k1.2.1
      · exact k1.2.1
      · exact k1.1
    have q2 : ptOK f (pairR how r s) := by
      rcases hb with ⟨rfl, rfl⟩ | ⟨rfl, rfl⟩ | ⟨rfl, rfl⟩ | ⟨rfl, rfl⟩
      · exact k2.1
      · exact k2.1
      · exact k2.2.1
      · exact k2.2.1
    obtain ⟨t1, t2, t3, t4⟩ := cmpR_turn hr q1 q2
    rw [e1] at c1
    rw [e2, t1] at c2
    exact ⟨_, _, _, c1, c2, fun _ => t2, by omega, by omega⟩
  · have e1 : cmpG f how r s = (0, faultG f [r, s] []) := by unfold cmpG; rw [if_pos hw]
    have e2 : cmpG f back s r = (0, faultG f [r, s] []) := by unfold cmpG; rw [hsw, if_pos hw]
    rw [e1] at c1
    rw [e2] at c2
    exact ⟨_, _, _, c1, c2, fun h => absurd h hw, by simp, by simp⟩
theorem self_h (f : List Node) (r : Rng) (hf : Fit f) : ∃ a b c d w w2 w3 w4 : Int, PureC Tryz.prog 17 [fav f, iav 0, r.av, r.av] (.tup [iav a, iav w]) ∧ PureC Tryz.prog 17 [fav f, iav 1, r.av, r.av] (.tup [iav b, iav w2]) ∧ PureC Tryz.prog 17 [fav f, iav 2, r.av, r.av] (.tup [iav c, iav w3]) ∧ PureC Tryz.prog 17 [fav f, iav 3, r.av, r.av] (.tup [iav d, iav w4]) ∧
    (w ≠ 0 → w2 = w ∧ w3 = w ∧ w4 = w) ∧ (w = 0 → a = 0 ∧ 0 ≤ b ∧ c = 0 ∧ d ≤ 0) := by
  have c0 := compare_c f 0 r r hf
  have c1 := compare_c f 1 r r hf
  have c2 := compare_c f 2 r r hf
  have c3 := compare_c f 3 r r hf
  refine ⟨_, _, _, _, _, _, _, _, c0, c1, c2, c3, ?_⟩
  by_cases hw : faultG f [r, r] [] = 0
  · obtain ⟨hr, hok, _⟩ := faultG_zero.1 hw
    obtain ⟨k1, k2, k3, k4⟩ := hok r (by simp)
    have e : ∀ how : Int, 0 ≤ how → how ≤ 3 → cmpG f how r r = cmpR f (pairL how r r) (pairR how r r) := fun how h0 h1 => by unfold cmpG; rw [if_neg (by omega), if_neg (by omega)]
    have ht := pos_turn hr k1.1 k2.1 k3
    rw [e 0 (by omega) (by omega), e 1 (by omega) (by omega), e 2 (by omega) (by omega), e 3 (by omega) (by omega)]
    rw [show cmpR f (pairL 0 r r) (pairR 0 r r) = (0, 0) by rw [show pairL 0 r r = r.s from rfl, show pairR 0 r r = r.s from rfl, cmpR_zero hr k1 k1, if_pos (by rw [dec_true]), pos_self]]
    rw [show cmpR f (pairL 2 r r) (pairR 2 r r) = (0, 0) by rw [show pairL 2 r r = r.e from rfl, show pairR 2 r r = r.e from rfl, cmpR_zero hr k2 k2, if_pos (by rw [dec_true]), pos_self]]
    rw [show cmpR f (pairL 1 r r) (pairR 1 r r) = (posP f r.e r.s, 0) by rw [show pairL 1 r r = r.e from rfl, show pairR 1 r r = r.s from rfl, cmpR_zero hr k2 k1, if_pos (by rw [dec_true]; exact k3.symm)]]
    rw [show cmpR f (pairL 3 r r) (pairR 3 r r) = (posP f r.s r.e, 0) by rw [show pairL 3 r r = r.s from rfl, show pairR 3 r r = r.e from rfl, cmpR_zero hr k1 k2, if_pos (by rw [dec_true]; exact k3)]]
    exact ⟨fun h => absurd rfl h, fun _ => ⟨rfl, by simp only; omega, rfl, k4⟩⟩
  · have e : ∀ how : Int, cmpG f how r r = (0, faultG f [r, r] []) := fun how => by unfold cmpG; rw [if_pos hw]
    rw [e 0, e 1, e 2, e 3]
    exact ⟨fun _ => ⟨rfl, rfl, rfl⟩, fun h => absurd h hw⟩
theorem rturned_c (f : List Node) (r s : Rng) (hf : Fit f) : PureC Tryz.prog 5 [fav f, r.av, s.av] (bav true) := by
  have hb := begins_true
  have H := turn_h f r s hf
  obtain ⟨a, b, c, d, w, w2, w3, w4, k0, k1, k2, k3, hw1, hw0⟩ := self_h f r hf
  refine PureC.mk tabs Tryz.func5 122 [.tmp 6] rfl rfl rfl rfl rfl ?_; intro w0 X
  (repeat' (first | ((with_reducible show AL _ _ _ _ _); first | (refine AL.step tabs rfl ?_; try dsimp only [len, List.nil_append, List.cons_append]) | refine AL.op rfl (OpOK.call rfl rfl rfl rfl hb rfl) ?_ | refine AL.nil ?_ | (refine AL.gsplitE rfl rfl rfl (fun hc => ?_) (fun hc => ?_) <;> (fail_if_success (exact absurd hc (by decide))) <;> (try simp only [hsx] at hc) <;> (try first | (exfalso; omega) | contradiction | (exfalso; simp [dec_eq] at hc; done))) | (refine AL.op rfl (OpOK.ari64 rfl rfl rfl rfl rfl (by omega) (by omega)) ?_)) | (exfalso; omega) | refine AW.seq ?_ | refine AW.region ?_ | refine Then.norm ?_ | refine AW.skip ?_ | refine AW.block ?_ | refine InB.norm ?_ | refine AW.condT rfl ?_ | refine AW.condF rfl ?_ | (refine AW.cond rfl (fun hc => ?_) (fun hc => ?_) <;> (try simp only [hsx] at hc) <;> (try first | (exfalso; omega) | contradiction | (exfalso; simp [dec_eq] at hc; done))) | refine AW.ret ?_ | refine AW.exit ?_ | refine Then.ret ?_ | refine Then.exit ?_ | refine InB.ret ?_ | refine InB.here ?_ | refine InB.off rfl ?_ | refine Rnd.ret ?_ | refine Rnd.exit ?_))
  refine AW.loop (α := Int) (fun i => ⟨[(3, .ptr 0 1 0 0), (4, .ptr 1 1 0 0), (5, .ptr 2 1 0 0), (7, iav i)], [⟨24, 1, [[.imm (.sl (f.map Node.iv))]]⟩, ⟨41, 4, [r.iv.map .imm]⟩, ⟨41, 4, [s.iv.map .imm]⟩]⟩) (fun i => 0 ≤ i ∧ i ≤ 4) (fun i => (4 - i).toNat) 0 (Le.cut 3 rfl (by repeat' (first | exact trivial | refine ⟨rfl, ?_⟩)) rfl rfl (Nat.zero_le _)) ⟨by omega, by omega⟩ ?_
  rintro i ⟨i0, i1⟩
  rcases (show i = 0 ∨ i = 1 ∨ i = 2 ∨ i = 3 ∨ i = 4 by omega) with rfl | rfl | rfl | rfl | rfl
  · obtain ⟨n1, n2, w, q1, q2, hq, hq1, hq2⟩ := H 0 0 (by simp)
    (repeat' (first | ((with_reducible show AL _ _ _ _ _); first | (refine AL.step tabs rfl ?_; try dsimp only [len, List.nil_append, List.cons_append]) | refine AL.op rfl (OpOK.call rfl rfl rfl rfl q1 rfl) ?_ | refine AL.op rfl (OpOK.call rfl rfl rfl rfl q2 rfl) ?_ | refine AL.op rfl (OpOK.negz rfl rfl rfl (by omega) (by omega)) ?_ | refine AL.nil ?_ | (refine AL.gsplitE rfl rfl rfl (fun hc => ?_) (fun hc => ?_) <;> (fail_if_success (exact absurd hc (by decide))) <;> (try simp only [hsx] at hc) <;> (try first | (exfalso; omega) | contradiction | (exfalso; simp [dec_eq] at hc; done))) | (refine AL.op rfl (OpOK.ari64 rfl rfl rfl rfl rfl (by omega) (by omega)) ?_)) | (exfalso; omega) | refine AW.seq ?_ | refine AW.region ?_ | refine Then.norm ?_ | refine AW.skip ?_ | refine AW.block ?_ | refine InB.norm ?_ | refine AW.condT rfl ?_ | refine AW.condF rfl ?_ | (refine AW.cond rfl (fun hc => ?_) (fun hc => ?_) <;> (try simp only [hsx] at hc) <;> (try first | (exfalso; omega) | contradiction | (exfalso; simp [dec_eq] at hc; done))) | refine AW.ret ?_ | refine AW.exit ?_ | refine Then.ret ?_ | refine Then.exit ?_ | refine InB.ret ?_ | refine InB.here ?_ | refine InB.off rfl ?_ | refine Rnd.ret ?_ | refine Rnd.exit ?_))
    all_goals first
      | exact Rnd.norm 1 (Le.cut 3 rfl (by repeat' (first | exact trivial | refine ⟨rfl, ?_⟩)) rfl rfl (Nat.zero_le _)) ⟨by omega, by omega⟩ (by omega)
      | (trace_state; sorry)
  · obtain ⟨n1, n2, w, q1, q2, hq, hq1, hq2⟩ := H 1 3 (by simp)
    (repeat' (first | ((with_reducible show AL _ _ _ _ _); first | (refine AL.step tabs rfl ?_; try dsimp only [len, List.nil_append, List.cons_append]) | refine AL.op rfl (OpOK.call rfl rfl rfl rfl q1 rfl) ?_ | refine AL.op rfl (OpOK.call rfl rfl rfl rfl q2 rfl) ?_ | refine AL.op rfl (OpOK.negz rfl rfl rfl (by omega) (by omega)) ?_ | refine AL.nil ?_ | (refine AL.gsplitE rfl rfl rfl (fun hc => ?_) (fun hc => ?_) <;> (fail_if_success (exact absurd hc (by decide))) <;> (try simp only [hsx] at hc) <;> (try first | (exfalso; omega) | contradiction | (exfalso; simp [dec_eq] at hc; done))) | (refine AL.op rfl (OpOK.ari64 rfl rfl rfl rfl rfl (by omega) (by omega)) ?_)) | (exfalso; omega) | refine AW.seq ?_ | refine AW.region ?_ | refine Then.norm ?_ | refine AW.skip ?_ | refine AW.block ?_ | refine InB.norm ?_ | refine AW.condT rfl ?_ | refine AW.condF rfl ?_ | (refine AW.cond rfl (fun hc => ?_) (fun hc => ?_) <;> (try simp only [hsx] at hc) <;> (try first | (exfalso; omega) | contradiction | (exfalso; simp [dec_eq] at hc; done))) | refine AW.ret ?_ | refine AW.exit ?_ | refine Then.ret ?_ | refine Then.exit ?_ | refine InB.ret ?_ | refine InB.here ?_ | refine InB.off rfl ?_ | refine Rnd.ret ?_ | refine Rnd.exit ?_))
    all_goals first
      | exact Rnd.norm 2 (Le.cut 3 rfl (by repeat' (first | exact trivial | refine ⟨rfl, ?_⟩)) rfl rfl (Nat.zero_le _)) ⟨by omega, by omega⟩ (by omega)
      | (trace_state; sorry)
  · obtain ⟨n1, n2, w, q1, q2, hq, hq1, hq2⟩ := H 2 2 (by simp)
    (repeat' (first | ((with_reducible show AL _ _ _ _ _); first | (refine AL.step tabs rfl ?_; try dsimp only [len, List.nil_append, List.cons_append]) | refine AL.op rfl (OpOK.call rfl rfl rfl rfl q1 rfl) ?_ | refine AL.op rfl (OpOK.call rfl rfl rfl rfl q2 rfl) ?_ | refine AL.op rfl (OpOK.negz rfl rfl rfl (by omega) (by omega)) ?_ | refine AL.nil ?_ | (refine AL.gsplitE rfl rfl rfl (fun hc => ?_) (fun hc => ?_) <;> (fail_if_success (exact absurd hc (by decide))) <;> (try simp only [hsx] at hc) <;> (try first | (exfalso; omega) | contradiction | (exfalso; simp [dec_eq] at hc; done))) | (refine AL.op rfl (OpOK.ari64 rfl rfl rfl rfl rfl (by omega) (by omega)) ?_)) | (exfalso; omega) | refine AW.seq ?_ | refine AW.region ?_ | refine Then.norm ?_ | refine AW.skip ?_ | refine AW.block ?_ | refine InB.norm ?_ | refine AW.condT rfl ?_ | refine AW.condF rfl ?_ | (refine AW.cond rfl (fun hc => ?_) (fun hc => ?_) <;> (try simp only [hsx] at hc) <;> (try first | (exfalso; omega) | contradiction | (exfalso; simp [dec_eq] at hc; done))) | refine AW.ret ?_ | refine AW.exit ?_ | refine Then.ret ?_ | refine Then.exit ?_ | refine InB.ret ?_ | refine InB.here ?_ | refine InB.off rfl ?_ | refine Rnd.ret ?_ | refine Rnd.exit ?_))
    all_goals first
      | exact Rnd.norm 3 (Le.cut 3 rfl (by repeat' (first | exact trivial | refine ⟨rfl, ?_⟩)) rfl rfl (Nat.zero_le _)) ⟨by omega, by omega⟩ (by omega)
      | (trace_state; sorry)
  · obtain ⟨n1, n2, w, q1, q2, hq, hq1, hq2⟩ := H 3 1 (by simp)
    (repeat' (first | ((with_reducible show AL _ _ _ _ _); first | (refine AL.step tabs rfl ?_; try dsimp only [len, List.nil_append, List.cons_append]) | refine AL.op rfl (OpOK.call rfl rfl rfl rfl q1 rfl) ?_ | refine AL.op rfl (OpOK.call rfl rfl rfl rfl q2 rfl) ?_ | refine AL.op rfl (OpOK.negz rfl rfl rfl (by omega) (by omega)) ?_ | refine AL.nil ?_ | (refine AL.gsplitE rfl rfl rfl (fun hc => ?_) (fun hc => ?_) <;> (fail_if_success (exact absurd hc (by decide))) <;> (try simp only [hsx] at hc) <;> (try first | (exfalso; omega) | contradiction | (exfalso; simp [dec_eq] at hc; done))) | (refine AL.op rfl (OpOK.ari64 rfl rfl rfl rfl rfl (by omega) (by omega)) ?_)) | (exfalso; omega) | refine AW.seq ?_ | refine AW.region ?_ | refine Then.norm ?_ | refine AW.skip ?_ | refine AW.block ?_ | refine InB.norm ?_ | refine AW.condT rfl ?_ | refine AW.condF rfl ?_ | (refine AW.cond rfl (fun hc => ?_) (fun hc => ?_) <;> (try simp only [hsx] at hc) <;> (try first | (exfalso; omega) | contradiction | (exfalso; simp [dec_eq] at hc; done))) | refine AW.ret ?_ | refine AW.exit ?_ | refine Then.ret ?_ | refine Then.exit ?_ | refine InB.ret ?_ | refine InB.here ?_ | refine InB.off rfl ?_ | refine Rnd.ret ?_ | refine Rnd.exit ?_))
    all_goals first
      | exact Rnd.norm 4 (Le.cut 3 rfl (by repeat' (first | exact trivial | refine ⟨rfl, ?_⟩)) rfl rfl (Nat.zero_le _)) ⟨by omega, by omega⟩ (by omega)
      | (trace_state; sorry)
  · (repeat' (first | ((with_reducible show AL _ _ _ _ _); first | (refine AL.step tabs rfl ?_; try dsimp only [len, List.nil_append, List.cons_append]) | refine AL.op rfl (OpOK.call rfl rfl rfl rfl k0 rfl) ?_ | refine AL.op rfl (OpOK.call rfl rfl rfl rfl k1 rfl) ?_ | refine AL.op rfl (OpOK.call rfl rfl rfl rfl k2 rfl) ?_ | refine AL.op rfl (OpOK.call rfl rfl rfl rfl k3 rfl) ?_ | refine AL.nil ?_ | (refine AL.gsplitE rfl rfl rfl (fun hc => ?_) (fun hc => ?_) <;> (fail_if_success (exact absurd hc (by decide))) <;> (try simp only [hsx] at hc) <;> (try first | (exfalso; omega) | contradiction | (exfalso; simp [dec_eq] at hc; done))) | (refine AL.op rfl (OpOK.ari64 rfl rfl rfl rfl rfl (by omega) (by omega)) ?_)) | (exfalso; omega) | refine AW.seq ?_ | refine AW.region ?_ | refine Then.norm ?_ | refine AW.skip ?_ | refine AW.block ?_ | refine InB.norm ?_ | refine AW.condT rfl ?_ | refine AW.condF rfl ?_ | (refine AW.cond rfl (fun hc => ?_) (fun hc => ?_) <;> (try simp only [hsx] at hc) <;> (try first | (exfalso; omega) | contradiction | (exfalso; simp [dec_eq] at hc; done))) | refine AW.ret ?_ | refine AW.exit ?_ | refine Then.ret ?_ | refine Then.exit ?_ | refine InB.ret ?_ | refine InB.here ?_ | refine InB.off rfl ?_ | refine Rnd.ret ?_ | refine Rnd.exit ?_))
    all_goals first
      | exact RQ.fin rfl rfl rfl
      | (refine RQ.fin rfl rfl (congrArg bav ?_); simp_all [dec_eq]; done)
      | (trace_state; sorry)
end Go.Proofs.YtjjdabihnmilgaaGreat.A
namespace Go.Proofs.YtjjdabihnmilgaaGreat.A
open Go.RowKit
set_option linter.unusedVariables false
set_option linter.unusedSimpArgs false
variable {P : Program} {α β : Type}
def noX : Nat → Prop := fun _ => False
theorem bulk_part {H : Type} {d : DataW H} {l : List (DataW H)} (h : d ∈ l) : Rows.uptoBulk d ≤ Rows.uptoBulkAll l := by
  induction l with
  | nil => cases h
  | cons x r ih =>
    simp only [Rows.uptoBulkAll]
    cases List.mem_cons.1 h with
    | inl e => subst e; omega
    | inr e => have := ih e; omega
theorem bulk_pos {H : Type} (d : DataW H) : 1 ≤ Rows.uptoBulk d := by
  cases d with
  | lit l => cases l <;> simp [Rows.uptoBulk]
  | nil => simp [Rows.uptoBulk]
  | ptr d => simp [Rows.uptoBulk]
  | slice elems spare => simp [Rows.uptoBulk]
  | agg parts => simp [Rows.uptoBulk]
  | iface t d => simp [Rows.uptoBulk]
  | map entries => simp [Rows.uptoBulk]
  | held h => simp [Rows.uptoBulk]
theorem bulk_length {H : Type} (l : List (DataW H)) : l.length ≤ Rows.uptoBulkAll l := by
  induction l with
  | nil => simp [Rows.uptoBulkAll]
  | cons x r ih => have := bulk_pos x; simp only [Rows.uptoBulkAll, List.length_cons]; omega
/-- type t's data reads as some a, which is rd a in cells; a fits: Fit, of a and the data's bulk. -/
structure Opens (P : Program) (t : TypeId) (rd : α → List IV) (sz : Nat) (Fit : α → Nat → Prop) : Prop where
  len : ∀ a, (rd a).length = sz
  get : ∀ {H : Type} {enc : TypeId × Value → H} {w : World} {spare : Nat → Bool} {held : Bool} {fuel : Nat} {cs : List Value} {x : DataW H × List MemPlace},
    DataW.trod enc P w 0 spare held fuel t cs = some x → ∃ a : α, All2 (RepI w noX) (rd a) cs ∧ Fit a (Rows.uptoBulk x.1)
  mono : ∀ {a : α} {b b' : Nat}, b ≤ b' → Fit a b → Fit a b'
theorem Opens.int {t : TypeId} {k : IntKind} (ht : P.underlying t = some (.int k)) : Opens P t (fun n : Int => [.int k n]) 1 (fun _ _ => True) where
  len := fun _ => rfl
  mono := fun _ h => h
  get := by
    intro H enc w spare held fuel cs x h
    obtain ⟨n, rfl, rfl, hw⟩ := DataW.trod_int ht h
    exact ⟨n, .cons (.int _ _) .nil, trivial⟩
theorem Opens.bool {t : TypeId} (ht : P.underlying t = some .bool) : Opens P t (fun b : Bool => [.bool b]) 1 (fun _ _ => True) where
  len := fun _ => rfl
  mono := fun _ h => h
  get := by
    intro H enc w spare held fuel cs x h
    obtain ⟨n, rfl, rfl⟩ := DataW.trod_bool ht h
    exact ⟨n, .cons (.bool _) .nil, trivial⟩
theorem Opens.string {t : TypeId} (ht : P.underlying t = some .string) : Opens P t (fun s : ByteArray => [.str s]) 1 (fun _ _ => True) where
  len := fun _ => rfl
  mono := fun _ h => h
  get := by
    intro H enc w spare held fuel cs x h
    obtain ⟨n, rfl, rfl, hw⟩ := DataW.trod_string ht h
    exact ⟨n, .cons (.str _) .nil, trivial⟩
theorem pick_list {Q : Nat → α → Prop} : ∀ n : Nat, (∀ i, i < n → ∃ p, Q i p) → ∃ xs : List α, xs.length = n ∧ ∀ i p, xs[i]? = some p → Q i p
  | 0, _ => ⟨[], rfl, fun i p h => by simp at h⟩
  | n + 1, h => by
    obtain ⟨xs, hl, hq⟩ := pick_list n (fun i hi => h i (by omega))
    obtain ⟨p, hp⟩ := h n (by omega)
    refine ⟨xs ++ [p], by simp [hl], fun i q hi => ?_⟩
    by_cases e : i < xs.length
    · rw [List.getElem?_append_left e] at hi
      exact hq i q hi
    · have hlt := (List.getElem?_eq_some_iff.1 hi).1
      simp [hl] at hlt
      obtain rfl : i = n := by omega
      rw [List.getElem?_append_right (by omega), hl, Nat.sub_self] at hi
      simp at hi
      subst hi
      exact hp
theorem all2_pairs {R : IV → Value → Prop} {rd : α → List IV} : ∀ {l : List (α × List Value)}, (∀ p ∈ l, All2 R (rd p.1) p.2) → All2 R ((l.map Prod.fst).map rd).flatten (l.map Prod.snd).flatten
  | [], _ => .nil
  | p :: r, h => by
    simp only [List.map_cons, List.flatten_cons]
    exact (h p (by simp)).append (all2_pairs fun q hq => h q (by simp [hq]))
theorem add_addA (a : Addr) (i j : Nat) : (a.add i).add j = a.add (i + j) := by
  unfold Addr.add
  by_cases hi : i = 0
  · subst hi; simp
  · by_cases hj : j = 0
    · subst hj; simp
    · simp [hi, hj, Nat.add_assoc]
theorem Opens.slice {t e : TypeId} {rd : α → List IV} {sz : Nat} {Fit : α → Nat → Prop} (ht : P.underlying t = some (.slice e)) (hc : P.cellsOf e = sz) (hsz : 0 < sz) (he : Opens P e rd sz Fit) :
    Opens P t (fun xs : List α => [.sl (xs.map rd)]) 1 (fun xs b => xs.length < b ∧ ∀ x ∈ xs, Fit x b) where
  len := fun _ => rfl
  mono := fun h h2 => ⟨Nat.lt_of_lt_of_le h2.1 h, fun x hx => he.mono h (h2.2 x hx)⟩
  get := by
    intro H enc w spare held fuel cs x h
    rcases DataW.trod_slice ht h with ⟨rfl, rfl⟩ | ⟨a, len, cap, elems, rest, n, _, rfl, rfl, hb, hl, hm, hlen, hel, _, _⟩
    · exact ⟨[], .cons (.nil _ _) .nil, by simp [Rows.uptoBulk]⟩
    · have each : ∀ i : Nat, i < len → ∃ p : α × List Value, All2 (RepI w noX) (rd p.1) p.2 ∧ p.2.length = sz ∧ (∀ j u, p.2[j]? = some u → w.cell? (a.add (i * sz + j)) = some u) ∧ ∃ y : DataW H × List MemPlace, elems[i]? = some y ∧ Fit p.1 (Rows.uptoBulk y.1) := by
        intro i hi
        have h1 := hel i hi
        obtain ⟨y, hy⟩ : ∃ y, elems[i]? = some y := ⟨_, List.getElem?_eq_getElem (by omega)⟩
        rw [hy, hc] at h1
        obtain ⟨c, hcs, htr⟩ := Option.bind_eq_some_iff.1 h1
        obtain ⟨p, hK, hF⟩ := he.get htr
        have hcl : c.length = sz := by rw [← hK.length, he.len]
        refine ⟨(p, c), hK, hcl, fun j u hj => ?_, y, hy, hF⟩
        unfold World.cells? at hcs
        rw [if_pos (Nat.zero_le _)] at hcs
        have hj2 : j < sz := by
          have := (List.getElem?_eq_some_iff.1 hj).1
          rw [← hcl]
          exact this
        have := mapM_some_get hcs j j (List.getElem?_range hj2)
        rw [← add_addA, this, hj]
      obtain ⟨xs, hxl, hxq⟩ := pick_list len each
      have hall : ∀ p ∈ xs, ∃ i, xs[i]? = some p := fun p hp => by
        obtain ⟨j, hj, rfl⟩ := List.getElem_of_mem hp
        exact ⟨j, List.getElem?_eq_getElem hj⟩
      refine ⟨xs.map Prod.fst, .cons ?_ .nil, ?_, ?_⟩
      · by_cases h0 : xs = []
        · subst h0
          simp at hxl
          subst hxl
          exact .nil _ _
        · have hr2 : ∀ r ∈ xs.map Prod.snd, r.length = sz := by
            intro r hr
            obtain ⟨p, hp, rfl⟩ := List.mem_map.1 hr
            obtain ⟨i, hi⟩ := hall p hp
            exact (hxq i p hi).2.1
          refine .sl _ a len cap sz (xs.map Prod.snd).flatten (by simpa using h0) hsz (by simp [hxl]) hl (fun h => h) ?_ ?_ (all2_pairs fun p hp => ?_)
          · intro r hr
            obtain ⟨p, _, rfl⟩ := List.mem_map.1 hr
            exact he.len p
          · intro k u hk
            have hk2 := (List.getElem?_eq_some_iff.1 hk).1
            rw [flat_len hr2] at hk2
            have hdm : k = k / sz * sz + k % sz := by rw [Nat.mul_comm]; exact (Nat.div_add_mod k sz).symm
            have hlt : k / sz < (xs.map Prod.snd).length := (Nat.div_lt_iff_lt_mul hsz).2 hk2
            obtain ⟨r, hr⟩ : ∃ r, (xs.map Prod.snd)[k / sz]? = some r := ⟨_, List.getElem?_eq_getElem hlt⟩
            have hg := flat_get hr2 hr (Nat.mod_lt k hsz)
            rw [← hdm, hk] at hg
            rw [List.getElem?_map] at hr
            obtain ⟨p, hp, rfl⟩ := Option.map_eq_some_iff.1 hr
            have := (hxq _ p hp).2.2.1 _ u hg.symm
            rw [← hdm] at this
            exact this
          · obtain ⟨i, hi⟩ := hall p hp
            exact (hxq i p hi).1
      · have h1 := bulk_length (elems.map (·.1))
        simp [Rows.uptoBulk] at h1 ⊢
        omega
      · intro p hp
        obtain ⟨q, hq, rfl⟩ := List.mem_map.1 hp
        obtain ⟨i, hi⟩ := hall q hq
        obtain ⟨_, _, _, y, hy, hF⟩ := hxq i q hi
        refine he.mono ?_ hF
        have hm : y.1 ∈ elems.map (·.1) := List.mem_map_of_mem (List.mem_of_getElem? hy)
        have := bulk_part hm
        simp only [Rows.uptoBulk]
        omega
/-- fields in line, from cell o on -/
structure OpensF (P : Program) (fs : List Field) (o : Nat) (rd : α → List IV) (sz : Nat) (Fit : α → Nat → Prop) : Prop where
  len : ∀ a, (rd a).length = sz
  get : ∀ {H : Type} {enc : TypeId × Value → H} {w : World} {spare : Nat → Bool} {held : Bool} {fuel : Nat} {cs : List Value} {xs : List (DataW H × List MemPlace)}, cs.length = o + sz →
    (fs.mapM fun f => DataW.trod enc P w 0 spare held fuel f.type ((cs.drop f.offset).take (P.cellsOf f.type))) = some xs → ∃ a : α, All2 (RepI w noX) (rd a) (cs.drop o) ∧ Fit a (Rows.uptoBulkAll (xs.map (·.1)))
  mono : ∀ {a : α} {b b' : Nat}, b ≤ b' → Fit a b → Fit a b'
theorem OpensF.one {f : Field} {o : Nat} {rd : α → List IV} {sz : Nat} {Fit : α → Nat → Prop} (h : Opens P f.type rd sz Fit) (ho : f.offset = o) (hc : P.cellsOf f.type = sz) : OpensF P [f] o rd sz Fit where
  len := h.len
  mono := h.mono
  get := by
    intro H enc w spare held fuel cs xs hl hx
    have h0 := mapM_some_get hx 0 f rfl
    have hlen := mapM_some_length hx
    obtain ⟨y, rfl⟩ : ∃ y, xs = [y] := by
      match xs, hlen with
      | [y], _ => exact ⟨y, rfl⟩
    simp at h0
    rw [ho, hc, List.take_of_length_le (by simp; omega)] at h0
    obtain ⟨a, hK, hF⟩ := h.get h0
    exact ⟨a, hK, h.mono (by simp [Rows.uptoBulkAll]) hF⟩
theorem OpensF.cons {f : Field} {fs : List Field} {o : Nat} {rd : α → List IV} {rd2 : β → List IV} {sz sz2 : Nat} {Fit : α → Nat → Prop} {Fit2 : β → Nat → Prop} (h : Opens P f.type rd sz Fit) (ho : f.offset = o) (hc : P.cellsOf f.type = sz) (h2 : OpensF P fs (o + sz) rd2 sz2 Fit2) :
    OpensF P (f :: fs) o (fun p : α × β => rd p.1 ++ rd2 p.2) (sz + sz2) (fun x b => Fit x.1 b ∧ Fit2 x.2 b) where
  len := fun p => by rw [List.length_append, h.len, h2.len]
  mono := fun hb hf => ⟨h.mono hb hf.1, h2.mono hb hf.2⟩
  get := by
    intro H enc w spare held fuel cs xs hl hx
    have hlen := mapM_some_length hx
    obtain ⟨y, ys, rfl⟩ : ∃ y ys, xs = y :: ys := by
      match xs, hlen with
      | y :: ys, _ => exact ⟨y, ys, rfl⟩
    have h0 := mapM_some_get hx 0 f rfl
    simp at h0
    rw [ho, hc] at h0
    obtain ⟨a, hK, hF⟩ := h.get h0
    have hx2 : (fs.mapM fun f => DataW.trod enc P w 0 spare held fuel f.type ((cs.drop f.offset).take (P.cellsOf f.type))) = some ys := by
      simp only [List.mapM_cons, Option.bind_eq_bind, Option.bind_eq_some_iff] at hx
      obtain ⟨y', hy', ys', hys, he⟩ := hx
      simp at he
      rw [hys, he.2]
    obtain ⟨b, hK2, hF2⟩ := h2.get (by rw [hl]; omega) hx2
    refine ⟨(a, b), ?_, h.mono (by simp [Rows.uptoBulkAll]) hF, h2.mono (by simp [Rows.uptoBulkAll]) hF2⟩
    have := hK.append hK2
    rw [← List.drop_drop, List.take_append_drop] at this
    exact this
theorem Opens.struct {t : TypeId} {fs : Array Field} {rd : α → List IV} {sz : Nat} {Fit : α → Nat → Prop} (ht : P.underlying t = some (.struct fs)) (hf : OpensF P fs.toList 0 rd sz Fit) (hc : P.cellsOf t = sz) : Opens P t rd sz Fit where
  len := hf.len
  mono := fun hb h => hf.mono hb h
  get := by
    intro H enc w spare held fuel cs x h
    cases fuel with
    | zero => simp [DataW.trod] at h
    | succ n =>
      unfold DataW.trod at h
      rw [ht] at h
      simp only at h
      split at h
      · rename_i hl
        obtain ⟨xs, hxs, rfl⟩ := Option.map_eq_some_iff.1 h
        obtain ⟨a, hK, hF⟩ := hf.get (by rw [hl, hc]; omega) hxs
        refine ⟨a, by simpa using hK, hf.mono (by simp [Rows.uptoBulk]) hF⟩
      · cases h
theorem Opens.iso {t : TypeId} {rd : α → List IV} {rd' : β → List IV} {sz : Nat} {Fit : α → Nat → Prop} {Fit' : β → Nat → Prop} (h : Opens P t rd sz Fit) (g : α → β) (hr : ∀ a, rd' (g a) = rd a) (gi : β → α) (hg : ∀ b, g (gi b) = b) (hf : ∀ a b, Fit a b → Fit' (g a) b) (hm : ∀ {a : β} {b b' : Nat}, b ≤ b' → Fit' a b → Fit' a b') : Opens P t rd' sz Fit' where
  len := fun b => by rw [← hg b, hr]; exact h.len _
  mono := hm
  get := by
    intro H enc w spare held fuel cs x hx
    obtain ⟨a, h1, h2⟩ := h.get hx
    exact ⟨g a, by rw [hr]; exact h1, hf _ _ h2⟩
end Go.Proofs.YtjjdabihnmilgaaGreat.A
namespace Go.Proofs.YtjjdabihnmilgaaGreat.A
open Go.RowKit
set_option linter.unusedVariables false
set_option linter.unusedSimpArgs false
theorem opName : Opens Tryz.prog 75 Name.iv 3 (fun _ _ => True) :=
  (Opens.struct Tryz.underlying75 (.cons (.string Tryz.underlying9) rfl (by kernel_rfl) (.cons (.string Tryz.underlying9) rfl (by kernel_rfl) (.one (.string Tryz.underlying9) rfl (by kernel_rfl)))) (by kernel_rfl)).iso
    (fun p => ⟨p.1, p.2.1, p.2.2⟩) (fun _ => rfl) (fun n => (n.sp, n.pf, n.lc)) (fun _ => rfl) (fun _ _ _ => trivial) (fun _ h => h)
theorem opAttr : Opens Tryz.prog 176 Attr.iv 4 (fun _ _ => True) :=
  (Opens.struct Tryz.underlying176 (.cons opName rfl (by kernel_rfl) (.one (.string Tryz.underlying9) rfl (by kernel_rfl))) (by kernel_rfl)).iso
    (fun p => ⟨p.1, p.2⟩) (fun _ => rfl) (fun n => (n.name, n.value)) (fun _ => rfl) (fun _ _ _ => trivial) (fun _ h => h)
theorem opNode : Opens Tryz.prog 81 Node.iv 16 (fun n b => n.data.length < b ∧ n.attrs.length < b ∧ n.kids.length < b) :=
  (Opens.struct Tryz.underlying81 (.cons (.int Tryz.underlying76) rfl (by kernel_rfl) (.cons opName rfl (by kernel_rfl) (.cons (.string Tryz.underlying9) rfl (by kernel_rfl) (.cons (.string Tryz.underlying9) rfl (by kernel_rfl)
    (.cons (.slice Tryz.underlying73 (by kernel_rfl) (by decide) (.int Tryz.underlying132)) rfl (by kernel_rfl) (.cons (.slice Tryz.underlying77 (by kernel_rfl) (by decide) opAttr) rfl (by kernel_rfl)
    (.cons (.int Tryz.underlying3) rfl (by kernel_rfl) (.cons (.slice Tryz.underlying78 (by kernel_rfl) (by decide) (.int Tryz.underlying3)) rfl (by kernel_rfl)
    (.cons (.int Tryz.underlying3) rfl (by kernel_rfl) (.cons (.int Tryz.underlying3) rfl (by kernel_rfl) (.cons (.int Tryz.underlying3) rfl (by kernel_rfl) (.cons (.int Tryz.underlying79) rfl (by kernel_rfl) (.cons (.bool Tryz.underlying4) rfl (by kernel_rfl) (.one (.bool Tryz.underlying4) rfl (by kernel_rfl))))))))))))))) (by kernel_rfl)).iso
    (fun p => ⟨p.1, p.2.1, p.2.2.1, p.2.2.2.1, p.2.2.2.2.1, p.2.2.2.2.2.1, p.2.2.2.2.2.2.1, p.2.2.2.2.2.2.2.1, p.2.2.2.2.2.2.2.2.1, p.2.2.2.2.2.2.2.2.2.1, p.2.2.2.2.2.2.2.2.2.2.1, p.2.2.2.2.2.2.2.2.2.2.2.1, p.2.2.2.2.2.2.2.2.2.2.2.2.1, p.2.2.2.2.2.2.2.2.2.2.2.2.2⟩) (fun _ => rfl)
    (fun n => (n.kind, n.name, n.pub, n.sys, n.data, n.attrs, n.parent, n.kids, n.doc, n.host, n.shadow, n.mode, n.manual, n.html)) (fun _ => rfl) (fun _ _ h => ⟨h.2.2.2.2.1.1, h.2.2.2.2.2.1.1, h.2.2.2.2.2.2.2.1.1⟩) (fun h h2 => ⟨Nat.lt_of_lt_of_le h2.1 h, Nat.lt_of_lt_of_le h2.2.1 h, Nat.lt_of_lt_of_le h2.2.2 h⟩)
theorem opForest : Opens Tryz.prog 24 (fun f : List Node => [.sl (f.map Node.iv)]) 1 (fun f b => f.length < b ∧ ∀ n ∈ f, n.data.length < b ∧ n.attrs.length < b ∧ n.kids.length < b) :=
  Opens.struct Tryz.underlying24 (.one (.slice Tryz.underlying22 (by kernel_rfl) (by decide) opNode) rfl (by kernel_rfl)) (by kernel_rfl)
theorem fit_bulk {f : List Node} {b : Nat} (hb : b ≤ 1048577) (h : f.length < b ∧ ∀ n ∈ f, n.data.length < b ∧ n.attrs.length < b ∧ n.kids.length < b) : Fit f :=
  ⟨by omega, fun n hn => by have := h.2 n hn; exact ⟨by omega, by omega, by omega⟩⟩
theorem argForest {w : World} {f : List Node} {cs : List Value} (h : All2 (RepI w noX) [.sl (f.map Node.iv)] cs) : RepA (M0 w noX) (fav f) (.agg cs.toArray) :=
  .agg _ _ (by
    cases h with
    | cons h1 h2 => cases h2; exact .cons (.imm _ _ h1) .nil)
theorem argInt {w : World} {k : IntKind} {n : Int} {v : Value} (h : All2 (RepI w noX) [.int k n] [v]) : RepA (M0 w noX) (.imm (.int k n)) v := by
  cases h with
  | cons h1 h2 => exact .imm _ _ h1
end Go.Proofs.YtjjdabihnmilgaaGreat.A
namespace Go.Proofs.YtjjdabihnmilgaaGreat.A
open Go.RowKit
set_option linter.unusedVariables false
set_option linter.unusedSimpArgs false
theorem Opens.intR {P : Program} {t : TypeId} {k : IntKind} (ht : P.underlying t = some (.int k)) : Opens P t (fun n : Int => [.int k n]) 1 (fun n _ => k.min ≤ n ∧ n ≤ k.max) where
  len := fun _ => rfl
  mono := fun _ h => h
  get := by
    intro H enc w spare held fuel cs x h
    obtain ⟨n, rfl, rfl, hw⟩ := DataW.trod_int ht h
    refine ⟨n, .cons (.int _ _) .nil, ?_⟩
    unfold Lit.wf at hw
    rw [Bool.and_eq_true] at hw
    exact ⟨of_decide_eq_true hw.1, of_decide_eq_true hw.2⟩
end Go.Proofs.YtjjdabihnmilgaaGreat.A
namespace Go.Proofs.YtjjdabihnmilgaaGreat.A
open Go.RowKit
set_option linter.unusedVariables false
set_option linter.unusedSimpArgs false
theorem opBnd : Opens Tryz.prog 39 Bnd.iv 2 (fun _ _ => True) :=
  (Opens.struct Tryz.underlying39 (.cons (.int Tryz.underlying3) rfl (by kernel_rfl) (.one (.int Tryz.underlying3) rfl (by kernel_rfl))) (by kernel_rfl)).iso
    (fun p => ⟨p.1, p.2⟩) (fun _ => rfl) (fun b => (b.n, b.o)) (fun _ => rfl) (fun _ _ _ => trivial) (fun _ h => h)
theorem opRng : Opens Tryz.prog 41 Rng.iv 4 (fun _ _ => True) :=
  (Opens.struct Tryz.underlying41 (.cons opBnd rfl (by kernel_rfl) (.one opBnd rfl (by kernel_rfl))) (by kernel_rfl)).iso
    (fun p => ⟨p.1, p.2⟩) (fun _ => rfl) (fun r => (r.s, r.e)) (fun _ => rfl) (fun _ _ _ => trivial) (fun _ h => h)
theorem imms_all {w : World} : ∀ {l : List IV} {xs : List Value}, All2 (RepI w noX) l xs → All2 (RepA (M0 w noX)) (l.map .imm) xs
  | [], _, h => by cases h; exact .nil
  | v :: l, _, h => by
    cases h with
    | cons h1 h2 => exact .cons (.imm _ _ h1) (imms_all h2)
theorem argBnd {w : World} {b : Bnd} {cs : List Value} (h : All2 (RepI w noX) b.iv cs) : RepA (M0 w noX) b.av (.agg cs.toArray) := .agg _ _ (imms_all h)
theorem argRng {w : World} {r : Rng} {cs : List Value} (h : All2 (RepI w noX) r.iv cs) : RepA (M0 w noX) r.av (.agg cs.toArray) := .agg _ _ (imms_all h)
theorem u8lo {n : Int} (h : IntKind.u8.min ≤ n ∧ n ≤ IntKind.u8.max) : 0 ≤ n := h.1
theorem u8hi {n : Int} (h : IntKind.u8.min ≤ n ∧ n ≤ IntKind.u8.max) : n < 256 := by
  have : IntKind.u8.max = 255 := by decide
  omega
end Go.Proofs.YtjjdabihnmilgaaGreat.A
namespace Go.Proofs.YtjjdabihnmilgaaGreat.rangesTurned
open Go.ChangeShapes Go.WideShapes Go.ChangeAt Go.RowKit Go.Proofs.YtjjdabihnmilgaaGreat.A
set_option linter.unusedVariables false
theorem own : ownKnob Tryz.prog.godebug = none := by kernel_rfl
theorem laidOut : laidOutB Tryz.prog = true := by kernel_rfl
set_option maxRecDepth 100000 in
theorem contract (H : Type) (enc : TypeId × Value → H) (W : World) (base : Nat) (args : Array Value) (ds gs : List (DataW H)) (before : List MemPlace)
    (hval0 : ∀ (j : Nat) t v, Tryz.f5.params[j]? = some t → args[j]? = some v → Value.okWide Tryz.prog W .any base t v)
    (hW : DataW.Whole enc Tryz.prog Tryz.f5.params.toList Rows.rangesTurnedSpec.vars false W args.toList ds gs before) (hk : Rows.uptoSmall H (ds ++ gs) = true) :
    Calls Tryz.prog 5 args W fun e W' => ∃ v, e = .returned v ∧ Rows.rangesTurnedSpec.post enc Tryz.prog Tryz.f5 false true false false W args v W' := by
  have hval : ∀ (j : Nat) t v, Tryz.f5.params[j]? = some t → args[j]? = some v → Value.okWide Tryz.prog W .any base t v := hval0
  have hW' := hW
  obtain ⟨p, q, hA0, hV, rfl, hfz, hnd⟩ := hW
  have hA : DataW.TrodAll enc Tryz.prog W 0 (fun _ => true) true Tryz.f5.params.toList args.toList ds p := hA0
  rw [Tryz.params5] at hA hval
  obtain ⟨v0, vs0, d0, ds0, p0, q0, hargs, rfl, rfl, h0, r0⟩ := trodAll_cons hA
  obtain ⟨v1, vs1, d1, ds1, p1, q1, rfl, rfl, rfl, h1, r1⟩ := trodAll_cons r0
  obtain ⟨v2, vs2, d2, ds2, p2, q2, rfl, rfl, rfl, h2, r2⟩ := trodAll_cons r1
  obtain ⟨rfl, rfl, rfl⟩ := trodAll_nil r2
  obtain rfl : args = #[v0, v1, v2] := by cases args; simp_all
  obtain ⟨rfl, rfl⟩ := trodVars_none hV
  have hb : Rows.uptoBulkAll ([d0, d1, d2] : List (DataW H)) ≤ 1048576 := by
    have h_ := of_decide_eq_true hk
    simpa only [List.append_nil] using h_
  clear hk
  have lt0 : ∀ x ∈ p0, x.block < W.heap.size := by obtain ⟨m, hm⟩ := h0; exact DataW.trod_lt m _ _ _ hm
  have lt1 : ∀ x ∈ p1, x.block < W.heap.size := by obtain ⟨m, hm⟩ := h1; exact DataW.trod_lt m _ _ _ hm
  have lt2 : ∀ x ∈ p2, x.block < W.heap.size := by obtain ⟨m, hm⟩ := h2; exact DataW.trod_lt m _ _ _ hm
  have b0 : Rows.uptoBulk d0 ≤ 1048576 := Nat.le_trans (bulk_part (by simp)) hb
  have k0 := h0
  have k1 := h1
  have k2 := h2
  obtain ⟨m0, hm0⟩ := k0
  obtain ⟨x0, K0, F0⟩ := opForest.get hm0
  replace F0 := opForest.mono (Nat.le_succ_of_le b0) F0
  obtain ⟨cs0, rfl, _⟩ := okWide_struct Tryz.underlying24 (hval 0 24 v0 rfl rfl)
  obtain ⟨m1, hm1⟩ := k1
  obtain ⟨x1, K1, _⟩ := opRng.get hm1
  obtain ⟨cs1, rfl, _⟩ := okWide_struct Tryz.underlying41 (hval 1 41 v1 rfl rfl)
  obtain ⟨m2, hm2⟩ := k2
  obtain ⟨x2, K2, _⟩ := opRng.get hm2
  obtain ⟨cs2, rfl, _⟩ := okWide_struct Tryz.underlying41 (hval 2 41 v2 rfl rfl)
  refine ((rturned_c x0 x1 x2 (fit_bulk (Nat.le_refl _) F0)).2 W noX _ (fun b h => h.elim) (.cons (argForest K0) (.cons (argRng K1) (.cons (argRng K2) .nil)))).mono fun e W' ⟨x, he, bel, hx⟩ => ?_
  subst he
  obtain rfl : x = .bool true := by
    cases hx with
    | imm _ _ h => exact h.bool_inv
  exact ⟨_, rfl, _, _, _, [], _, [], hW', trodAll_mk1 (shut_bool Tryz.underlying4 _), (trodAll_cons_mk (Below.trod laidOut (by kernel_rfl) (of_decide_eq_true (by kernel_rfl)) h0 bel lt0) (trodAll_cons_mk (Below.trod laidOut (by kernel_rfl) (of_decide_eq_true (by kernel_rfl)) h1 bel lt1) (trodAll_cons_mk (Below.trod laidOut (by kernel_rfl) (of_decide_eq_true (by kernel_rfl)) h2 bel lt2) trodAll_mk0))), rfl, bel.frame _, fun h => by cases h⟩
set_option maxRecDepth 100000 in
theorem lifted (os : Os) (started : os.Started) (H : Type) (enc : TypeId × Value → H) (F : Stop.Interp) :
    ReturnsInHanded {} Tryz.checked os 5 .any ((Rows.OpenSpec.upto Rows.rangesTurnedSpec).pre6 enc Tryz.prog Tryz.f5 Rows.rangesTurnedUptoRow.domain false) (((Rows.OpenSpec.upto Rows.rangesTurnedSpec).at F).post enc Tryz.prog Tryz.f5 false true false false) := by
  refine returnsInHanded_of_cond (C := Tryz.checked) (s := Rows.OpenSpec.upto Rows.rangesTurnedSpec) (k := Rows.uptoSmall) rfl own started (by kernel_rfl) Tryz.func5
    (OpenSpec.witness (enc := enc) (C := Tryz.checked) (s := Rows.OpenSpec.upto Rows.rangesTurnedSpec) (k := Rows.uptoSmall) rfl false ⟨#[], #[.agg #[.slice none 0 0], .agg #[.int .i64 0, .int .i64 0, .int .i64 0, .int .i64 0], .agg #[.int .i64 0, .int .i64 0, .int .i64 0, .int .i64 0]], []⟩ 8 (by kernel_rfl) (by kernel_rfl) (by kernel_rfl)
      (x := ([.agg [.nil], .agg [.agg [.lit (.int .i64 0), .lit (.int .i64 0)], .agg [.lit (.int .i64 0), .lit (.int .i64 0)]], .agg [.agg [.lit (.int .i64 0), .lit (.int .i64 0)], .agg [.lit (.int .i64 0), .lit (.int .i64 0)]]], [], [])) (by kernel_rfl) rfl (by kernel_rfl)) ?_
  intro W base args ds gs before hval hW _ hk _
  exact contract H enc W base args ds gs before hval hW hk
theorem over : Rows.rangesTurnedUptoRow.holds Tryz.pinned (Rows.OpenSpec.upto Rows.rangesTurnedSpec) :=
  OpenClaim.holds_of_cond 5 Tryz.f5 rfl rfl rfl rfl rfl rfl rfl ⟨rfl, rfl, rfl, rfl, rfl⟩ rfl rfl rfl rfl rfl (by kernel_rfl) Tryz.func5 (by kernel_rfl)
    (of_decide_eq_true (by kernel_rfl)) (by unfold Func.isWrapper; first | (rw [if_pos (by decide +kernel)]; kernel_rfl) | (rw [if_neg (by decide +kernel)]; exact ⟨rfl, rfl⟩))
    (fun os started H enc _ F => lifted os started H enc F)
end Go.Proofs.YtjjdabihnmilgaaGreat.rangesTurned
namespace Go.Proofs.YtjjdabihnmilgaaGreat
theorem rangesTurned_holds : Rows.RangesTurnedUptoSaid := rangesTurned.over
#print axioms rangesTurned_holds
end Go.Proofs.YtjjdabihnmilgaaGreat
