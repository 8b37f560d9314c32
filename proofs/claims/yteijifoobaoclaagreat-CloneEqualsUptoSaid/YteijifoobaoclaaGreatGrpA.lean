/- Contracts: package clone, Clone and Import; the law's small forest. -/
import Derived.Test.YteijifoobaoclaaGreatFnS
import Derived.Test.YteijifoobaoclaaGreatFnV
import Derived.Test.YteijifoobaoclaaGreatFnJ
import Derived.Test.YteijifoobaoclaaGreatFnH
namespace Go.Proofs.YteijifoobaoclaaGreat.A
set_option linter.unusedVariables false
set_option linter.unusedSimpArgs false
set_option maxRecDepth 100000
set_option maxHeartbeats 4000000
def noA (why : Int) : AV := .tup [fav [], .imm (.sl []), iav 0, iav why]
theorem cloneOk_c (f g : List Node) (h x w : Int) (deep : Bool) (L : List (List IV)) (hf : Fit f) (hff : faultR f [h] = 0) (hk : (nodeAt f h).kind ≠ 12) (hd : PureC Tryz.prog 25 [fav f, iav h, iav (nodeAt f h).doc, bav deep] (.tup [fav g, .imm (.sl L), iav x, iav w])) : PureC Tryz.prog 11 [fav f, iav h, bav deep] (.tup [fav g, .imm (.sl L), iav x, iav w]) := by
  have hfa := fault_c f [h] hf (by simp)
  rw [hff] at hfa
  refine PureC.mk tabs Tryz.func11 40 [.cell 6 24, .tmp 7, .tmp 8, .tmp 9] rfl rfl rfl rfl rfl ?_; intro w0 X
  (repeat' (first | ((with_reducible show AL _ _ _ _ _); first | (refine AL.step tabs rfl ?_; try dsimp only [len, List.nil_append, List.cons_append]) | refine AL.op rfl (OpOK.callfz rfl rfl rfl rfl hfa rfl rfl) ?_ | refine AL.op rfl (OpOK.call rfl rfl rfl rfl (treeAt_c f h hf.len) rfl) ?_ | refine AL.nil ?_ | (refine AL.gsplitE rfl rfl rfl (fun hc => ?_) (fun hc => ?_) <;> (fail_if_success (exact absurd hc (by decide))) <;> (try simp only [hsx] at hc) <;> (try first | (exfalso; omega) | contradiction | (exfalso; simp [dec_eq] at hc; done))) | (refine AL.op rfl (OpOK.ari64 rfl rfl rfl rfl rfl (by omega) (by omega)) ?_) | (refine AL.op rfl (OpOK.index_map tabs rfl rfl rfl rfl rfl rfl rfl (fun _ => rfl) (by decide) (by omega) (by omega)) ?_) | (refine AL.op rfl (OpOK.eqs rfl rfl rfl rfl eqt45 rfl rfl) ?_) | (refine AL.op rfl (OpOK.eqs rfl rfl rfl rfl eqt68 rfl rfl) ?_) | (refine AL.op rfl (OpOK.eqs rfl rfl rfl rfl eqt146 rfl rfl) ?_) | (refine AL.op rfl (OpOK.eqs rfl rfl rfl rfl eqt151 rfl rfl) ?_)) | ((with_reducible show DQ _ _ _ _ _ _); first | refine DQ.stepc (LS.call rfl rfl rfl rfl rfl (treeAt_c f h hf.len) rfl) rfl rfl rfl rfl rfl ?_ | refine DQ.stepc (LS.call rfl rfl rfl rfl rfl hd rfl) rfl rfl rfl rfl rfl ?_ | refine DQ.stepc (LS.store (i := ti24) (v := fav g) (ty := 24) (sz := 1) (rows := [ti24.zero]) (r := ti24.zero) tabs rfl rfl rfl rfl rfl rfl rfl rfl rfl rfl (Nat.le_of_ble_eq_true rfl) rfl) rfl rfl rfl rfl rfl ?_ | refine DQ.stepc (LS.val tabs rfl rfl rfl) rfl rfl rfl rfl rfl ?_ | refine DQ.stepc (LS.skip rfl rfl) rfl rfl rfl rfl rfl ?_ | refine DQ.nilM (by kernel_rfl) ?_ | refine DQ.stepc (LS.ari64 rfl rfl rfl rfl rfl rfl (by omega) (by omega)) rfl rfl rfl rfl rfl ?_ | refine DQ.stepc (LS.index_map tabs rfl rfl rfl rfl rfl rfl rfl rfl (fun _ => rfl) (by decide) (by omega) (by omega)) rfl rfl rfl rfl rfl ?_ | (refine DQ.gsplitE rfl rfl rfl (fun hc => ?_) (fun hc => ?_) <;> (fail_if_success (exact absurd hc (by decide))) <;> (try simp only [hsx] at hc) <;> (try first | (exfalso; omega) | contradiction | (exfalso; simp [dec_eq] at hc; done))) | refine DQ.stepc (LS.eqs rfl rfl rfl rfl rfl eqt45 rfl rfl) rfl rfl rfl rfl rfl ?_ | refine DQ.stepc (LS.eqs rfl rfl rfl rfl rfl eqt68 rfl rfl) rfl rfl rfl rfl rfl ?_ | refine DQ.stepc (LS.eqs rfl rfl rfl rfl rfl eqt146 rfl rfl) rfl rfl rfl rfl rfl ?_ | refine DQ.stepc (LS.eqs rfl rfl rfl rfl rfl eqt151 rfl rfl) rfl rfl rfl rfl rfl ?_) | refine AW.seq ?_ | refine AW.region ?_ | refine Then.norm ?_ | refine AW.skip ?_ | refine AW.block ?_ | refine InB.norm ?_ | refine AW.condT rfl ?_ | refine AW.condF rfl ?_ | (refine AW.cond rfl (fun hc => ?_) (fun hc => ?_) <;> (try simp only [hsx] at hc) <;> (try first | (exfalso; omega) | contradiction | (exfalso; simp [dec_eq] at hc; done))) | refine AW.ret ?_ | refine AW.exit ?_ | refine Then.ret ?_ | refine Then.exit ?_ | refine InB.ret ?_ | refine InB.here ?_ | refine InB.off rfl ?_ | refine Rnd.ret ?_ | refine Rnd.exit ?_ | refine AW.drawW mixed (by kernel_rfl) ?_))
  all_goals first
    | exact RQ.fin rfl rfl rfl
theorem importDoc_c (f : List Node) (doc h : Int) (deep : Bool) (hf : Fit f) (hff : faultR f [doc, h] = 0) (hk : (nodeAt f doc).kind = 9) (hh : (nodeAt f h).kind = 9) : PureC Tryz.prog 16 [fav f, iav doc, iav h, bav deep] (noA 17) := by
  have hfa := fault_c f [doc, h] hf (by simp)
  rw [hff] at hfa
  refine PureC.mk tabs Tryz.func16 52 [.cell 8 24, .tmp 9, .tmp 10, .tmp 11] rfl rfl rfl rfl rfl ?_; intro w0 X
  (repeat' (first | ((with_reducible show AL _ _ _ _ _); first | (refine AL.step tabs rfl ?_; try dsimp only [len, List.nil_append, List.cons_append]) | refine AL.op rfl (OpOK.callfz rfl rfl rfl rfl hfa rfl rfl) ?_ | refine AL.op rfl (OpOK.call rfl rfl rfl rfl (treeAt_c f h hf.len) rfl) ?_ | refine AL.op rfl (OpOK.call rfl rfl rfl rfl (treeAt_c f doc hf.len) rfl) ?_ | refine AL.nil ?_ | (refine AL.gsplitE rfl rfl rfl (fun hc => ?_) (fun hc => ?_) <;> (fail_if_success (exact absurd hc (by decide))) <;> (try simp only [hsx] at hc) <;> (try first | (exfalso; omega) | contradiction | (exfalso; simp [dec_eq] at hc; done))) | (refine AL.op rfl (OpOK.ari64 rfl rfl rfl rfl rfl (by omega) (by omega)) ?_) | (refine AL.op rfl (OpOK.index_map tabs rfl rfl rfl rfl rfl rfl rfl (fun _ => rfl) (by decide) (by omega) (by omega)) ?_) | (refine AL.op rfl (OpOK.eqs rfl rfl rfl rfl eqt45 rfl rfl) ?_) | (refine AL.op rfl (OpOK.eqs rfl rfl rfl rfl eqt68 rfl rfl) ?_) | (refine AL.op rfl (OpOK.eqs rfl rfl rfl rfl eqt146 rfl rfl) ?_) | (refine AL.op rfl (OpOK.eqs rfl rfl rfl rfl eqt151 rfl rfl) ?_)) | refine AW.seq ?_ | refine AW.region ?_ | refine Then.norm ?_ | refine AW.skip ?_ | refine AW.block ?_ | refine InB.norm ?_ | refine AW.condT rfl ?_ | refine AW.condF rfl ?_ | (refine AW.cond rfl (fun hc => ?_) (fun hc => ?_) <;> (try simp only [hsx] at hc) <;> (try first | (exfalso; omega) | contradiction | (exfalso; simp [dec_eq] at hc; done))) | refine AW.ret ?_ | refine AW.exit ?_ | refine Then.ret ?_ | refine Then.exit ?_ | refine InB.ret ?_ | refine InB.here ?_ | refine InB.off rfl ?_ | refine Rnd.ret ?_ | refine Rnd.exit ?_))
  all_goals first
    | exact RQ.fin rfl rfl rfl
def eA : Name := ⟨es, es, ⟨#[97]⟩⟩
def s1 : Node := { n0 with kind := 9, kids := [2], doc := 1 }
def s2 : Node := { n0 with kind := 1, name := eA, parent := 1, kids := [3], doc := 1 }
def s3 : Node := { n0 with kind := 3, data := [65], parent := 2, doc := 1 }
def smallF : List Node := [s1, s2, s3]
theorem small_c : PureC Tryz.prog 31 [] (fav smallF) := by
  refine PureC.mk tabs Tryz.func31 10 [.cell 0 24] rfl rfl rfl rfl rfl ?_; intro w0 X
  (repeat' (first | ((with_reducible show AL _ _ _ _ _); first | (refine AL.step tabs rfl ?_; try dsimp only [len, List.nil_append, List.cons_append]) | refine AL.nil ?_ | (refine AL.gsplitE rfl rfl rfl (fun hc => ?_) (fun hc => ?_) <;> (fail_if_success (exact absurd hc (by decide))) <;> (try simp only [hsx] at hc) <;> (try first | (exfalso; omega) | contradiction | (exfalso; simp [dec_eq] at hc; done))) | (refine AL.op rfl (OpOK.ari64 rfl rfl rfl rfl rfl (by omega) (by omega)) ?_) | (refine AL.op rfl (OpOK.index_map tabs rfl rfl rfl rfl rfl rfl rfl (fun _ => rfl) (by decide) (by omega) (by omega)) ?_) | (refine AL.op rfl (OpOK.eqs rfl rfl rfl rfl eqt45 rfl rfl) ?_) | (refine AL.op rfl (OpOK.eqs rfl rfl rfl rfl eqt68 rfl rfl) ?_) | (refine AL.op rfl (OpOK.eqs rfl rfl rfl rfl eqt146 rfl rfl) ?_) | (refine AL.op rfl (OpOK.eqs rfl rfl rfl rfl eqt151 rfl rfl) ?_)) | refine AW.seq ?_ | refine AW.region ?_ | refine Then.norm ?_ | refine AW.skip ?_ | refine AW.block ?_ | refine InB.norm ?_ | refine AW.condT rfl ?_ | refine AW.condF rfl ?_ | (refine AW.cond rfl (fun hc => ?_) (fun hc => ?_) <;> (try simp only [hsx] at hc) <;> (try first | (exfalso; omega) | contradiction | (exfalso; simp [dec_eq] at hc; done))) | refine AW.ret ?_ | refine AW.exit ?_ | refine Then.ret ?_ | refine Then.exit ?_ | refine InB.ret ?_ | refine InB.here ?_ | refine InB.off rfl ?_ | refine Rnd.ret ?_ | refine Rnd.exit ?_))
  refine RQ.ret rfl (Fz.agg (.cons (Fz.osN (rows := smallF.map Node.iv) (hb := rfl) (hver := ?_) (hlen := ?_) (hrl := ?_) (hr := ?_)) .nil))
  · rfl
  · rfl
  · intro r hr
    obtain ⟨n, _, rfl⟩ := List.mem_map.1 hr
    rfl
  repeat' (first | exact All2.nil | refine All2.cons ?_ ?_)
  all_goals first
    | exact FzI.imm _
    | exact FzI.of (Fz.cv rfl)
    | (refine FzI.of (Fz.os (hb := rfl) (hver := ?_) (hr := ?_)) <;> rfl)

theorem begins_c (g : List Node) (L : List Change) (hL : L.length = 3) (hg : g.length = 5) (hcl : PureC Tryz.prog 11 [fav smallF, iav 2, bav true] (.tup [fav g, .imm (.sl (L.map Change.iv)), iav 4, iav 0])) (heq : PureC Tryz.prog 18 [fav g, iav 2, iav 4] (.tup [bav true, iav 0])) (him : PureC Tryz.prog 16 [fav smallF, iav 1, iav 1, bav true] (noA 17)) : PureC Tryz.prog 15 [] (bav true) := by
  have h1 : (L.map Change.iv).length = 3 := by rw [List.length_map, hL]
  have h2 : (g.map Node.iv).length = 5 := by rw [List.length_map, hg]
  refine PureC.mk tabs Tryz.func15 58 [.tmp 0] rfl rfl rfl rfl rfl ?_; intro w0 X
  (repeat' (first | ((with_reducible show AL _ _ _ _ _); first | (refine AL.step tabs rfl ?_; try dsimp only [len, List.nil_append, List.cons_append]) | refine AL.op rfl (OpOK.call rfl rfl rfl rfl small_c rfl) ?_ | refine AL.op rfl (OpOK.call rfl rfl rfl rfl hcl rfl) ?_ | refine AL.op rfl (OpOK.call rfl rfl rfl rfl heq rfl) ?_ | refine AL.op rfl (OpOK.call rfl rfl rfl rfl him rfl) ?_ | refine AL.nil ?_ | (refine AL.gsplitE rfl rfl rfl (fun hc => ?_) (fun hc => ?_) <;> (fail_if_success (exact absurd hc (by decide))) <;> (try simp only [hsx] at hc) <;> (try first | (exfalso; omega) | contradiction | (exfalso; simp [dec_eq] at hc; done))) | (refine AL.op rfl (OpOK.ari64 rfl rfl rfl rfl rfl (by omega) (by omega)) ?_) | (refine AL.op rfl (OpOK.index_map tabs rfl rfl rfl rfl rfl rfl rfl (fun _ => rfl) (by decide) (by omega) (by omega)) ?_) | (refine AL.op rfl (OpOK.eqs rfl rfl rfl rfl eqt45 rfl rfl) ?_) | (refine AL.op rfl (OpOK.eqs rfl rfl rfl rfl eqt68 rfl rfl) ?_) | (refine AL.op rfl (OpOK.eqs rfl rfl rfl rfl eqt146 rfl rfl) ?_) | (refine AL.op rfl (OpOK.eqs rfl rfl rfl rfl eqt151 rfl rfl) ?_)) | refine AW.seq ?_ | refine AW.region ?_ | refine Then.norm ?_ | refine AW.skip ?_ | refine AW.block ?_ | refine InB.norm ?_ | refine AW.condT rfl ?_ | refine AW.condF rfl ?_ | (refine AW.cond rfl (fun hc => ?_) (fun hc => ?_) <;> (try simp only [hsx] at hc) <;> (try first | (exfalso; omega) | contradiction | (exfalso; simp [dec_eq] at hc; done))) | refine AW.ret ?_ | refine AW.exit ?_ | refine Then.ret ?_ | refine Then.exit ?_ | refine InB.ret ?_ | refine InB.here ?_ | refine InB.off rfl ?_ | refine Rnd.ret ?_ | refine Rnd.exit ?_))
  all_goals first
    | (exfalso; omega)
    | (refine RQ.fin rfl rfl (congrArg bav ?_); simp [dec_eq]; done)
/-- What is asked of equality: both ways, and on; of a node with itself. -/
theorem equality_c (f : List Node) (a b c : Int) (x y z u v : Bool) (w1 w2 w3 w4 w5 : Int) (hb : PureC Tryz.prog 15 [] (bav true))
    (e1 : PureC Tryz.prog 18 [fav f, iav a, iav b] (.tup [bav x, iav w1])) (e2 : PureC Tryz.prog 18 [fav f, iav b, iav a] (.tup [bav y, iav w2])) (e3 : PureC Tryz.prog 18 [fav f, iav b, iav c] (.tup [bav z, iav w3])) (e4 : PureC Tryz.prog 18 [fav f, iav a, iav c] (.tup [bav u, iav w4])) (e5 : PureC Tryz.prog 18 [fav f, iav a, iav a] (.tup [bav v, iav w5]))
    (h1 : w5 = 0 → v = true) (h2 : w1 = w2) (h3 : x = y) (h4 : w1 = 0 → w3 = 0 → w4 = 0 → x = true → z = true → u = true) : PureC Tryz.prog 8 [fav f, iav a, iav b, iav c] (bav true) := by
  refine PureC.mk tabs Tryz.func8 93 [.tmp 8] rfl rfl rfl rfl rfl ?_; intro w0 X
  (repeat' (first | ((with_reducible show AL _ _ _ _ _); first | (refine AL.step tabs rfl ?_; try dsimp only [len, List.nil_append, List.cons_append]) | refine AL.op rfl (OpOK.call rfl rfl rfl rfl hb rfl) ?_ | refine AL.op rfl (OpOK.call rfl rfl rfl rfl e1 rfl) ?_ | refine AL.op rfl (OpOK.call rfl rfl rfl rfl e2 rfl) ?_ | refine AL.op rfl (OpOK.call rfl rfl rfl rfl e3 rfl) ?_ | refine AL.op rfl (OpOK.call rfl rfl rfl rfl e4 rfl) ?_ | refine AL.op rfl (OpOK.call rfl rfl rfl rfl e5 rfl) ?_ | refine AL.nil ?_ | (refine AL.gsplitE rfl rfl rfl (fun hc => ?_) (fun hc => ?_) <;> (fail_if_success (exact absurd hc (by decide))) <;> (try simp only [hsx] at hc) <;> (try first | (exfalso; omega) | contradiction | (exfalso; simp [dec_eq] at hc; done))) | (refine AL.op rfl (OpOK.ari64 rfl rfl rfl rfl rfl (by omega) (by omega)) ?_) | (refine AL.op rfl (OpOK.index_map tabs rfl rfl rfl rfl rfl rfl rfl (fun _ => rfl) (by decide) (by omega) (by omega)) ?_) | (refine AL.op rfl (OpOK.eqs rfl rfl rfl rfl eqt45 rfl rfl) ?_) | (refine AL.op rfl (OpOK.eqs rfl rfl rfl rfl eqt68 rfl rfl) ?_) | (refine AL.op rfl (OpOK.eqs rfl rfl rfl rfl eqt146 rfl rfl) ?_) | (refine AL.op rfl (OpOK.eqs rfl rfl rfl rfl eqt151 rfl rfl) ?_)) | refine AW.seq ?_ | refine AW.region ?_ | refine Then.norm ?_ | refine AW.skip ?_ | refine AW.block ?_ | refine InB.norm ?_ | refine AW.condT rfl ?_ | refine AW.condF rfl ?_ | (refine AW.cond rfl (fun hc => ?_) (fun hc => ?_) <;> (try simp only [hsx] at hc) <;> (try first | (exfalso; omega) | contradiction | (exfalso; simp [dec_eq] at hc; done))) | refine AW.ret ?_ | refine AW.exit ?_ | refine Then.ret ?_ | refine Then.exit ?_ | refine InB.ret ?_ | refine InB.here ?_ | refine InB.off rfl ?_ | refine Rnd.ret ?_ | refine Rnd.exit ?_))
  all_goals clear e1 e2 e3 e4 e5 hb
  all_goals first
    | (exfalso; simp_all; done)
    | (refine RQ.fin rfl rfl (congrArg bav ?_); simp_all; done)
end Go.Proofs.YteijifoobaoclaaGreat.A
namespace Go.Proofs.YteijifoobaoclaaGreat.A
set_option linter.unusedVariables false
set_option linter.unusedSimpArgs false
set_option maxRecDepth 100000
set_option maxHeartbeats 4000000
theorem dec_dec (p : Prop) [Decidable p] : dec p = decide p := dec_eq p
/-- rightP, node by node. -/
theorem right_of {f : List Node} (h : f.length ≤ 4096) (h2 : ∀ j : Nat, j < f.length → okP f (j : Int) (atI f j)) : rightP f := ⟨h, fun i h0 h1 => by
  have := h2 i.toNat (by omega)
  rw [show ((i.toNat : Nat) : Int) = i by omega] at this
  exact this⟩
theorem sz0 : (⟨#[]⟩ : ByteArray).size = 0 := rfl
theorem sz1 : (⟨#[97]⟩ : ByteArray).size = 1 := rfl
def c4 : Node := { n0 with kind := 1, name := eA, doc := 1 }
def c5 : Node := { n0 with kind := 3, data := [65], doc := 1 }
def c4i : Node := { c4 with kids := [5] }
def c5i : Node := { c5 with parent := 4 }
def G4 : List Node := [s1, s2, s3, c4]
def G5 : List Node := [s1, s2, s3, c4, c5]
def GI : List Node := [s1, s2, s3, c4i, c5i]
theorem small_right : rightP smallF := by
  refine right_of (by decide) fun j hj => ?_
  have hj' : j < 3 := hj
  match j, hj' with
  | 0, _ =>
    refine ⟨?_, ?_, 1, ?_⟩
    · simp [madeP, m11, m27, m50, m77, m100, m200, smallF, G4, G5, GI, s1, s2, s3, c4i, c5i, c4, c5, atI, n0, traitsOf, namingB, namedB, shortB, attrsB, attrsGo, es, eA, sz0, sz1, dec_dec]
    · simp [linksP, l1, l2, l3, l4, kidsB, kidsGo, famB, famGo, nodeAt, inB, cntB, smallF, G4, G5, GI, s1, s2, s3, c4i, c5i, c4, c5, atI, n0, dec_dec]
    · simp [inR, itN, upN, aboveOf, smallF, G4, G5, GI, s1, s2, s3, c4i, c5i, c4, c5, atI, n0]
  | 1, _ =>
    refine ⟨?_, ?_, 2, ?_⟩
    · simp [madeP, m11, m27, m50, m77, m100, m200, smallF, G4, G5, GI, s1, s2, s3, c4i, c5i, c4, c5, atI, n0, traitsOf, namingB, namedB, shortB, attrsB, attrsGo, es, eA, sz0, sz1, dec_dec]
    · simp [linksP, l1, l2, l3, l4, kidsB, kidsGo, famB, famGo, nodeAt, inB, cntB, smallF, G4, G5, GI, s1, s2, s3, c4i, c5i, c4, c5, atI, n0, dec_dec]
    · simp [inR, itN, upN, aboveOf, smallF, G4, G5, GI, s1, s2, s3, c4i, c5i, c4, c5, atI, n0]
  | 2, _ =>
    refine ⟨?_, ?_, 3, ?_⟩
    · simp [madeP, m11, m27, m50, m77, m100, m200, smallF, G4, G5, GI, s1, s2, s3, c4i, c5i, c4, c5, atI, n0, traitsOf, namingB, namedB, shortB, attrsB, attrsGo, es, eA, sz0, sz1, dec_dec]
    · simp [linksP, l1, l2, l3, l4, kidsB, kidsGo, famB, famGo, nodeAt, inB, cntB, smallF, G4, G5, GI, s1, s2, s3, c4i, c5i, c4, c5, atI, n0, dec_dec]
    · simp [inR, itN, upN, aboveOf, smallF, G4, G5, GI, s1, s2, s3, c4i, c5i, c4, c5, atI, n0]
theorem g4_right : rightP G4 := by
  refine right_of (by decide) fun j hj => ?_
  have hj' : j < 4 := hj
  match j, hj' with
  | 0, _ =>
    refine ⟨?_, ?_, 1, ?_⟩
    · simp [madeP, m11, m27, m50, m77, m100, m200, smallF, G4, G5, GI, s1, s2, s3, c4i, c5i, c4, c5, atI, n0, traitsOf, namingB, namedB, shortB, attrsB, attrsGo, es, eA, sz0, sz1, dec_dec]
    · simp [linksP, l1, l2, l3, l4, kidsB, kidsGo, famB, famGo, nodeAt, inB, cntB, smallF, G4, G5, GI, s1, s2, s3, c4i, c5i, c4, c5, atI, n0, dec_dec]
    · simp [inR, itN, upN, aboveOf, smallF, G4, G5, GI, s1, s2, s3, c4i, c5i, c4, c5, atI, n0]
  | 1, _ =>
    refine ⟨?_, ?_, 2, ?_⟩
    · simp [madeP, m11, m27, m50, m77, m100, m200, smallF, G4, G5, GI, s1, s2, s3, c4i, c5i, c4, c5, atI, n0, traitsOf, namingB, namedB, shortB, attrsB, attrsGo, es, eA, sz0, sz1, dec_dec]
    · simp [linksP, l1, l2, l3, l4, kidsB, kidsGo, famB, famGo, nodeAt, inB, cntB, smallF, G4, G5, GI, s1, s2, s3, c4i, c5i, c4, c5, atI, n0, dec_dec]
    · simp [inR, itN, upN, aboveOf, smallF, G4, G5, GI, s1, s2, s3, c4i, c5i, c4, c5, atI, n0]
  | 2, _ =>
    refine ⟨?_, ?_, 3, ?_⟩
    · simp [madeP, m11, m27, m50, m77, m100, m200, smallF, G4, G5, GI, s1, s2, s3, c4i, c5i, c4, c5, atI, n0, traitsOf, namingB, namedB, shortB, attrsB, attrsGo, es, eA, sz0, sz1, dec_dec]
    · simp [linksP, l1, l2, l3, l4, kidsB, kidsGo, famB, famGo, nodeAt, inB, cntB, smallF, G4, G5, GI, s1, s2, s3, c4i, c5i, c4, c5, atI, n0, dec_dec]
    · simp [inR, itN, upN, aboveOf, smallF, G4, G5, GI, s1, s2, s3, c4i, c5i, c4, c5, atI, n0]
  | 3, _ =>
    refine ⟨?_, ?_, 1, ?_⟩
    · simp [madeP, m11, m27, m50, m77, m100, m200, smallF, G4, G5, GI, s1, s2, s3, c4i, c5i, c4, c5, atI, n0, traitsOf, namingB, namedB, shortB, attrsB, attrsGo, es, eA, sz0, sz1, dec_dec]
    · simp [linksP, l1, l2, l3, l4, kidsB, kidsGo, famB, famGo, nodeAt, inB, cntB, smallF, G4, G5, GI, s1, s2, s3, c4i, c5i, c4, c5, atI, n0, dec_dec]
    · simp [inR, itN, upN, aboveOf, smallF, G4, G5, GI, s1, s2, s3, c4i, c5i, c4, c5, atI, n0]
theorem g5_right : rightP G5 := by
  refine right_of (by decide) fun j hj => ?_
  have hj' : j < 5 := hj
  match j, hj' with
  | 0, _ =>
    refine ⟨?_, ?_, 1, ?_⟩
    · simp [madeP, m11, m27, m50, m77, m100, m200, smallF, G4, G5, GI, s1, s2, s3, c4i, c5i, c4, c5, atI, n0, traitsOf, namingB, namedB, shortB, attrsB, attrsGo, es, eA, sz0, sz1, dec_dec]
    · simp [linksP, l1, l2, l3, l4, kidsB, kidsGo, famB, famGo, nodeAt, inB, cntB, smallF, G4, G5, GI, s1, s2, s3, c4i, c5i, c4, c5, atI, n0, dec_dec]
    · simp [inR, itN, upN, aboveOf, smallF, G4, G5, GI, s1, s2, s3, c4i, c5i, c4, c5, atI, n0]
  | 1, _ =>
    refine ⟨?_, ?_, 2, ?_⟩
    · simp [madeP, m11, m27, m50, m77, m100, m200, smallF, G4, G5, GI, s1, s2, s3, c4i, c5i, c4, c5, atI, n0, traitsOf, namingB, namedB, shortB, attrsB, attrsGo, es, eA, sz0, sz1, dec_dec]
    · simp [linksP, l1, l2, l3, l4, kidsB, kidsGo, famB, famGo, nodeAt, inB, cntB, smallF, G4, G5, GI, s1, s2, s3, c4i, c5i, c4, c5, atI, n0, dec_dec]
    · simp [inR, itN, upN, aboveOf, smallF, G4, G5, GI, s1, s2, s3, c4i, c5i, c4, c5, atI, n0]
  | 2, _ =>
    refine ⟨?_, ?_, 3, ?_⟩
    · simp [madeP, m11, m27, m50, m77, m100, m200, smallF, G4, G5, GI, s1, s2, s3, c4i, c5i, c4, c5, atI, n0, traitsOf, namingB, namedB, shortB, attrsB, attrsGo, es, eA, sz0, sz1, dec_dec]
    · simp [linksP, l1, l2, l3, l4, kidsB, kidsGo, famB, famGo, nodeAt, inB, cntB, smallF, G4, G5, GI, s1, s2, s3, c4i, c5i, c4, c5, atI, n0, dec_dec]
    · simp [inR, itN, upN, aboveOf, smallF, G4, G5, GI, s1, s2, s3, c4i, c5i, c4, c5, atI, n0]
  | 3, _ =>
    refine ⟨?_, ?_, 1, ?_⟩
    · simp [madeP, m11, m27, m50, m77, m100, m200, smallF, G4, G5, GI, s1, s2, s3, c4i, c5i, c4, c5, atI, n0, traitsOf, namingB, namedB, shortB, attrsB, attrsGo, es, eA, sz0, sz1, dec_dec]
    · simp [linksP, l1, l2, l3, l4, kidsB, kidsGo, famB, famGo, nodeAt, inB, cntB, smallF, G4, G5, GI, s1, s2, s3, c4i, c5i, c4, c5, atI, n0, dec_dec]
    · simp [inR, itN, upN, aboveOf, smallF, G4, G5, GI, s1, s2, s3, c4i, c5i, c4, c5, atI, n0]
  | 4, _ =>
    refine ⟨?_, ?_, 1, ?_⟩
    · simp [madeP, m11, m27, m50, m77, m100, m200, smallF, G4, G5, GI, s1, s2, s3, c4i, c5i, c4, c5, atI, n0, traitsOf, namingB, namedB, shortB, attrsB, attrsGo, es, eA, sz0, sz1, dec_dec]
    · simp [linksP, l1, l2, l3, l4, kidsB, kidsGo, famB, famGo, nodeAt, inB, cntB, smallF, G4, G5, GI, s1, s2, s3, c4i, c5i, c4, c5, atI, n0, dec_dec]
    · simp [inR, itN, upN, aboveOf, smallF, G4, G5, GI, s1, s2, s3, c4i, c5i, c4, c5, atI, n0]
theorem gi_right : rightP GI := by
  refine right_of (by decide) fun j hj => ?_
  have hj' : j < 5 := hj
  match j, hj' with
  | 0, _ =>
    refine ⟨?_, ?_, 1, ?_⟩
    · simp [madeP, m11, m27, m50, m77, m100, m200, smallF, G4, G5, GI, s1, s2, s3, c4i, c5i, c4, c5, atI, n0, traitsOf, namingB, namedB, shortB, attrsB, attrsGo, es, eA, sz0, sz1, dec_dec]
    · simp [linksP, l1, l2, l3, l4, kidsB, kidsGo, famB, famGo, nodeAt, inB, cntB, smallF, G4, G5, GI, s1, s2, s3, c4i, c5i, c4, c5, atI, n0, dec_dec]
    · simp [inR, itN, upN, aboveOf, smallF, G4, G5, GI, s1, s2, s3, c4i, c5i, c4, c5, atI, n0]
  | 1, _ =>
    refine ⟨?_, ?_, 2, ?_⟩
    · simp [madeP, m11, m27, m50, m77, m100, m200, smallF, G4, G5, GI, s1, s2, s3, c4i, c5i, c4, c5, atI, n0, traitsOf, namingB, namedB, shortB, attrsB, attrsGo, es, eA, sz0, sz1, dec_dec]
    · simp [linksP, l1, l2, l3, l4, kidsB, kidsGo, famB, famGo, nodeAt, inB, cntB, smallF, G4, G5, GI, s1, s2, s3, c4i, c5i, c4, c5, atI, n0, dec_dec]
    · simp [inR, itN, upN, aboveOf, smallF, G4, G5, GI, s1, s2, s3, c4i, c5i, c4, c5, atI, n0]
  | 2, _ =>
    refine ⟨?_, ?_, 3, ?_⟩
    · simp [madeP, m11, m27, m50, m77, m100, m200, smallF, G4, G5, GI, s1, s2, s3, c4i, c5i, c4, c5, atI, n0, traitsOf, namingB, namedB, shortB, attrsB, attrsGo, es, eA, sz0, sz1, dec_dec]
    · simp [linksP, l1, l2, l3, l4, kidsB, kidsGo, famB, famGo, nodeAt, inB, cntB, smallF, G4, G5, GI, s1, s2, s3, c4i, c5i, c4, c5, atI, n0, dec_dec]
    · simp [inR, itN, upN, aboveOf, smallF, G4, G5, GI, s1, s2, s3, c4i, c5i, c4, c5, atI, n0]
  | 3, _ =>
    refine ⟨?_, ?_, 1, ?_⟩
    · simp [madeP, m11, m27, m50, m77, m100, m200, smallF, G4, G5, GI, s1, s2, s3, c4i, c5i, c4, c5, atI, n0, traitsOf, namingB, namedB, shortB, attrsB, attrsGo, es, eA, sz0, sz1, dec_dec]
    · simp [linksP, l1, l2, l3, l4, kidsB, kidsGo, famB, famGo, nodeAt, inB, cntB, smallF, G4, G5, GI, s1, s2, s3, c4i, c5i, c4, c5, atI, n0, dec_dec]
    · simp [inR, itN, upN, aboveOf, smallF, G4, G5, GI, s1, s2, s3, c4i, c5i, c4, c5, atI, n0]
  | 4, _ =>
    refine ⟨?_, ?_, 2, ?_⟩
    · simp [madeP, m11, m27, m50, m77, m100, m200, smallF, G4, G5, GI, s1, s2, s3, c4i, c5i, c4, c5, atI, n0, traitsOf, namingB, namedB, shortB, attrsB, attrsGo, es, eA, sz0, sz1, dec_dec]
    · simp [linksP, l1, l2, l3, l4, kidsB, kidsGo, famB, famGo, nodeAt, inB, cntB, smallF, G4, G5, GI, s1, s2, s3, c4i, c5i, c4, c5, atI, n0, dec_dec]
    · simp [inR, itN, upN, aboveOf, smallF, G4, G5, GI, s1, s2, s3, c4i, c5i, c4, c5, atI, n0]
theorem fit_of {f : List Node} (h : f.length ≤ 1000000000) (h2 : ∀ n ∈ f, n.data.length ≤ 10 ∧ n.attrs.length ≤ 10 ∧ n.kids.length ≤ 10) : Fit f := ⟨h, fun n hn => by
  obtain ⟨a, b, c⟩ := h2 n hn
  exact ⟨by omega, by omega, by omega⟩⟩
theorem small_fit : Fit smallF := fit_of (by decide) (by simp [smallF, s1, s2, s3, n0])
theorem g4_fit : Fit G4 := fit_of (by decide) (by simp [G4, s1, s2, s3, c4, n0])
theorem g5_fit : Fit G5 := fit_of (by decide) (by simp [G5, s1, s2, s3, c4, c5, n0])
theorem gi_fit : Fit GI := fit_of (by decide) (by simp [GI, s1, s2, s3, c4i, c5i, c4, c5, n0])
theorem do4 : PureC Tryz.prog 61 [fav smallF, (mkCh (smallF.length + 1) c4).av] (.tup [fav G4, iav 0]) := by
  have h := doneM_c smallF c4 small_fit (g4_fit.node c4 (by simp [G4])) (by decide) (by decide)
  rw [show doneM smallF c4 = (G4, 0) by unfold doneM; rw [if_neg (by decide), if_pos (by rw [dec_true]; exact g4_right)]; rfl] at h
  exact apply_c _ _ _ _ small_fit small_right h
theorem do5 : PureC Tryz.prog 61 [fav G4, (mkCh (G4.length + 1) c5).av] (.tup [fav G5, iav 0]) := by
  have h := doneM_c G4 c5 g4_fit (g5_fit.node c5 (by simp [G5])) (by decide) (by decide)
  rw [show doneM G4 c5 = (G5, 0) by unfold doneM; rw [if_neg (by decide), if_pos (by rw [dec_true]; exact g5_right)]; rfl] at h
  exact apply_c _ _ _ _ g4_fit g4_right h
theorem doI : PureC Tryz.prog 61 [fav G5, (inCh 5 4 0).av] (.tup [fav GI, iav 0]) := by
  have h := doneI0_c G5 (inCh 5 4 0) g5_fit (by decide) rfl rfl (by decide) (by decide) (by decide) (by decide) (by decide) rfl rfl rfl
  rw [show doneI G5 (inCh 5 4 0) = (GI, 0) by unfold doneI; rw [show insF G5 (inCh 5 4 0).node (inCh 5 4 0).parent = GI from rfl, if_pos (by rw [dec_true]; exact gi_right)]] at h
  exact apply_c _ _ _ _ g5_fit g5_right h
def L3 : List Change := [mkCh 4 c4, mkCh 5 c5, inCh 5 4 0]
theorem one3 : OneR smallF true ⟨G4, [mkCh 4 c4], 0⟩ 3 1 4 ⟨GI, L3, 0⟩ 5 :=
  .mk _ ⟨G5, [mkCh 4 c4, mkCh 5 c5], 0⟩ ⟨GI, L3, 0⟩ _ _ _ 1 _ _ true (by decide) (by decide) (by decide) (by decide) (by decide) (by intro h; exact absurd h (by decide)) (fun _ => rfl)
    (.ok ⟨G4, [mkCh 4 c4], 0⟩ _ G5 rfl do5) rfl (by intro h; exact absurd h (by decide)) (fun _ => ⟨true, .ok ⟨G5, [mkCh 4 c4, mkCh 5 c5], 0⟩ _ GI rfl doI⟩) (by intro h; cases h) (fun _ => .nil _ _ _)
theorem one2 : OneR smallF true ⟨smallF, [], 0⟩ 2 1 0 ⟨GI, L3, 0⟩ 4 :=
  .mk _ ⟨G4, [mkCh 4 c4], 0⟩ ⟨G4, [mkCh 4 c4], 0⟩ _ _ _ 1 _ _ true (by decide) (by decide) (by decide) (by decide) (by decide) (by intro h; exact absurd h (by decide)) (fun _ => rfl)
    (.ok ⟨smallF, [], 0⟩ _ G4 rfl do4) rfl (fun _ => rfl) (by intro h; exact absurd rfl h) (by intro h; cases h) (fun _ => .cons _ _ _ _ _ _ _ _ one3 (.nil _ _ _))
theorem fault0 {f : List Node} {l : List Int} (hr : rightP f) (hl : (l.all fun h => inB f h) = true) : faultR f l = 0 := by
  unfold faultR
  rw [if_pos (by rw [dec_true]; exact hr), if_pos hl]
theorem clone_small : PureC Tryz.prog 11 [fav smallF, iav 2, bav true] (.tup [fav GI, .imm (.sl (L3.map Change.iv)), iav 4, iav 0]) := by
  have h := cloneDone_c smallF 2 1 true ⟨GI, L3, 0⟩ 4 (by decide) one2 (by decide) (fun _ => by simp [L3]) (by
    intro i h0 h1
    have hf : ∀ c ∈ L3, FitC c := by
      intro c hc
      have hn4 : FitN c4 := g4_fit.node c4 (by simp [G4])
      have hn5 : FitN c5 := g5_fit.node c5 (by simp [G5])
      simp only [L3, List.mem_cons, List.not_mem_nil, or_false] at hc
      rcases hc with rfl | rfl | rfl
      · exact ⟨by simp [mkCh, c0], hn4, by simp [mkCh, c0], by simp [mkCh, c0]⟩
      · exact ⟨by simp [mkCh, c0], hn5, by simp [mkCh, c0], by simp [mkCh, c0]⟩
      · exact ⟨by simp [inCh, c0], fit0, by simp [inCh, c0], by simp [inCh, c0]⟩
    exact hf _ (atI_mem h0 h1))
  unfold doneA at h
  rw [if_pos rfl] at h
  exact cloneOk_c smallF GI 2 4 0 true _ small_fit (fault0 small_right (by decide)) (by decide) h
theorem import_small : PureC Tryz.prog 16 [fav smallF, iav 1, iav 1, bav true] (noA 17) := importDoc_c smallF 1 1 true small_fit (fault0 small_right (by decide)) rfl rfl
theorem eq35 : PureC Tryz.prog 32 [fav GI, iav 3, iav 5] (bav true) := equalYes_c GI 3 5 true gi_fit ⟨rfl, by intro h; exact absurd h (by decide), by intro _ h; exact absurd h (by decide), fun _ _ _ => ⟨rfl, rfl⟩⟩ (by
  unfold EqsG
  rw [if_pos (show (nodeAt GI 3).kids.length = (nodeAt GI 5).kids.length from rfl)]
  exact ⟨0, by decide, fun j h0 h1 => by omega, fun _ => rfl, fun h => by cases h⟩)
theorem eq24 : PureC Tryz.prog 32 [fav GI, iav 2, iav 4] (bav true) := equalYes_c GI 2 4 true gi_fit ⟨rfl, by intro h; exact absurd h (by decide), fun _ _ => ⟨rfl, rfl, by intro x hx; cases hx⟩, by intro _ h; exact absurd rfl h⟩ (by
  unfold EqsG
  rw [if_pos (show (nodeAt GI 2).kids.length = (nodeAt GI 4).kids.length from rfl)]
  refine ⟨1, by decide, fun j h0 h1 => ?_, fun _ => rfl, fun h => by cases h⟩
  have : j = 0 := by omega
  subst this
  exact eq35)
theorem begins_true : PureC Tryz.prog 15 [] (bav true) := begins_c GI L3 rfl rfl clone_small (equal_c GI 2 4 true gi_fit eq24 (fault0 gi_right (by decide))) import_small
end Go.Proofs.YteijifoobaoclaaGreat.A
namespace Go.Proofs.YteijifoobaoclaaGreat.A
set_option linter.unusedVariables false
set_option linter.unusedSimpArgs false
set_option maxRecDepth 100000
set_option maxHeartbeats 4000000
theorem nodup_le {α : Type} [DecidableEq α] : ∀ {l m : List α}, l.Nodup → (∀ x ∈ l, x ∈ m) → l.length ≤ m.length
  | [], m, _, _ => Nat.zero_le _
  | x :: r, m, hn, hs => by
    have hx := hs x (by simp)
    rw [List.nodup_cons] at hn
    have := nodup_le (l := r) (m := m.erase x) hn.2 fun y hy => by
      have hne : y ≠ x := fun e => hn.1 (e ▸ hy)
      exact (List.mem_erase_of_ne hne).2 (hs y (by simp [hy]))
    have hl := List.length_erase_of_mem hx
    have : 0 < m.length := List.length_pos_of_mem hx
    simp only [List.length_cons]
    omega
theorem nodup_ge {α : Type} [DecidableEq α] {l m : List α} (hn : l.Nodup) (hs : ∀ x ∈ l, x ∈ m) (hl : l.length = m.length) : ∀ y ∈ m, y ∈ l := by
  intro y hy
  by_cases h : y ∈ l
  · exact h
  · have := nodup_le (l := l) (m := m.erase y) hn fun x hx => by
      have hne : x ≠ y := fun e => h (e ▸ hx)
      exact (List.mem_erase_of_ne hne).2 (hs x hx)
    have hl2 := List.length_erase_of_mem hy
    have : 0 < m.length := List.length_pos_of_mem hy
    omega
section
variable {f : List Node}
theorem right_node (hr : rightP f) {a : Int} (ha : inR f a) : madeP (nodeAt f a) ∧ linksP f a (nodeAt f a) ∧ Good f a := by
  have h := hr.2 (a - 1) (by have := ha.1; omega) (by have := ha.2; omega)
  unfold okP at h
  rw [show a - 1 + 1 = a by omega] at h
  have e : nodeAt f a = atI f (a - 1) := by unfold nodeAt; rw [if_pos (show 1 ≤ a ∧ a ≤ (f.length : Int) from ha)]
  rw [e]
  exact h
theorem node_out {a : Int} (ha : ¬ inR f a) : nodeAt f a = n0 := by unfold nodeAt; rw [if_neg (show ¬ (1 ≤ a ∧ a ≤ (f.length : Int)) from ha)]
theorem kidsGo_mem {h doc : Int} : ∀ (l seen : List Int), kidsGo f h doc seen l = true → ∀ k ∈ l, inB f k = true ∧ (nodeAt f k).parent = h
  | [], _, _, k, hk => by cases hk
  | x :: r, seen, hg, k, hk => by
    rw [kidsGo] at hg
    split at hg
    · cases hg
    rename_i h1
    split at hg
    · cases hg
    split at hg
    · cases hg
    rename_i h3
    split at hg
    · cases hg
    rcases List.mem_cons.1 hk with rfl | hk
    · refine ⟨by simpa using h1, ?_⟩
      rw [dec_false, Decidable.not_not] at h3
      exact h3
    · exact kidsGo_mem r _ hg k hk
theorem famGo_mem {K : Int → Int} {d : Bool} : ∀ (l : List Int) (e t : Int), famGo K d l e t = true → ∀ k ∈ l, K k ≠ 12
  | [], _, _, _, k, hk => by cases hk
  | x :: r, e, t, hg, k, hk => by
    rw [famGo] at hg
    rcases List.mem_cons.1 hk with rfl | hk
    · intro h12
      rw [h12] at hg
      simp at hg
    · split at hg
      · exact famGo_mem r _ _ hg k hk
      split at hg
      · split at hg
        · cases hg
        · exact famGo_mem r _ _ hg k hk
      split at hg
      · split at hg
        · cases hg
        · exact famGo_mem r _ _ hg k hk
      split at hg
      · exact famGo_mem r _ _ hg k hk
      · cases hg
theorem right_kid (hr : rightP f) {a k : Int} (ha : inR f a) (hk : k ∈ (nodeAt f a).kids) : inR f k ∧ upN f k = a := by
  obtain ⟨_, hl, _⟩ := right_node hr ha
  have hkb := hl.2.2.2.2
  unfold kidsB at hkb
  simp only [Bool.and_eq_true] at hkb
  obtain ⟨h1, h2⟩ := kidsGo_mem _ _ hkb.1 k hk
  have h12 := famGo_mem _ _ _ hkb.2 k hk
  have hin : inR f k := by simpa [inB, inR] using h1
  refine ⟨hin, ?_⟩
  have e : nodeAt f k = atI f (k - 1) := by unfold nodeAt; rw [if_pos (show 1 ≤ k ∧ k ≤ (f.length : Int) from hin)]
  unfold upN aboveOf
  rw [← e, if_neg h12]
  exact h2
/-- What holds of a node as soon as it holds of its kids holds of all. -/
theorem right_ind (hr : rightP f) (P : Int → Prop) (step : ∀ a, (∀ k ∈ (nodeAt f a).kids, P k) → P a) : ∀ a, P a := by
  have key : ∀ (m : Nat) (a : Int) (l : List Int), l.length + m = f.length + 1 → l.Nodup → (∀ b ∈ l, inR f b ∧ (b = a ∨ Reach f a b)) → a ∈ l → P a := by
    intro m
    induction m with
    | zero =>
      intro a l hl hn hin _
      exfalso
      have := nodup_le (l := l) (m := (List.range f.length).map fun j : Nat => (j : Int) + 1) hn fun x hx => by
        have hx := (hin x hx).1
        have h1 := hx.1
        have h2 := hx.2
        exact List.mem_map.2 ⟨(x - 1).toNat, List.mem_range.2 (by omega), by omega⟩
      simp at this
      omega
    | succ m ih =>
      intro a l hl hn hin ha
      refine step a fun k hk => ?_
      have hina := (hin a ha).1
      obtain ⟨hink, hup⟩ := right_kid hr hina hk
      have hg := (right_node hr hink).2.2
      have hrk : ∀ b ∈ l, Reach f k b := by
        intro b hb
        have h1 : Reach f k a := hup ▸ reach_one hink
        rcases (hin b hb).2 with rfl | h
        · exact h1
        · obtain ⟨i, i1, i2, i3⟩ := h1
          obtain ⟨j, j1, j2, j3⟩ := h
          refine ⟨i + j, by omega, by rw [itN_add, i2, j2], fun q hq => ?_⟩
          rcases Nat.lt_or_ge q i with h | h
          · exact i3 q h
          · rw [show q = i + (q - i) by omega, itN_add, i2]
            exact j3 _ (by omega)
      refine ih k (k :: l) (by simp; omega) (List.nodup_cons.2 ⟨fun hkl => reach_loop (hrk k hkl) hg, hn⟩) (fun b hb => ?_) (by simp)
      rcases List.mem_cons.1 hb with rfl | hb
      · exact ⟨hink, .inl rfl⟩
      · exact ⟨(hin b hb).1, .inr (hrk b hb)⟩
  intro a
  by_cases ha : inR f a
  · exact key f.length a [a] (by simp; omega) (by simp) (fun b hb => by
      simp only [List.mem_singleton] at hb
      subst hb
      exact ⟨ha, .inl rfl⟩) (by simp)
  · exact step a fun k hk => by
      rw [node_out ha] at hk
      cases hk
end
inductive EqN (f : List Node) : Int → Int → Prop
  | mk (a b : Int) (h : (nodeAt f a).kind = (nodeAt f b).kind ∧ cmpP (nodeAt f a).kind (nodeAt f a) (nodeAt f b)) (hl : (nodeAt f a).kids.length = (nodeAt f b).kids.length) (hk : ∀ j : Int, 0 ≤ j → j < (nodeAt f a).kids.length → EqN f (atI (nodeAt f a).kids j) (atI (nodeAt f b).kids j)) : EqN f a b
theorem least {P : Nat → Prop} : ∀ {n : Nat}, (∃ j, j < n ∧ ¬ P j) → ∃ j, j < n ∧ ¬ P j ∧ ∀ i, i < j → P i
  | 0, ⟨j, h, _⟩ => by omega
  | n + 1, h => by
    by_cases h2 : ∃ j, j < n ∧ ¬ P j
    · obtain ⟨j, k1, k2, k3⟩ := least h2
      exact ⟨j, by omega, k2, k3⟩
    · obtain ⟨j, k1, k2⟩ := h
      have : j = n := by
        rcases Nat.lt_or_ge j n with h | h
        · exact absurd ⟨j, h, k2⟩ h2
        · omega
      subst this
      refine ⟨j, k1, k2, fun i hi => ?_⟩
      by_cases h3 : P i
      · exact h3
      · exact absurd ⟨i, hi, h3⟩ h2
theorem equal_all (f : List Node) (hf : Fit f) (hr : rightP f) : ∀ a b : Int, PureC Tryz.prog 32 [fav f, iav a, iav b] (bav (dec (EqN f a b))) := by
  refine right_ind hr (fun a => ∀ b : Int, PureC Tryz.prog 32 [fav f, iav a, iav b] (bav (dec (EqN f a b)))) fun a ih b => ?_
  by_cases hc : (nodeAt f a).kind = (nodeAt f b).kind ∧ cmpP (nodeAt f a).kind (nodeAt f a) (nodeAt f b)
  · refine equalYes_c f a b _ hf hc ?_
    unfold EqsG
    by_cases hl : (nodeAt f a).kids.length = (nodeAt f b).kids.length
    · rw [if_pos hl]
      by_cases hall : ∀ j : Int, 0 ≤ j → j < (nodeAt f a).kids.length → EqN f (atI (nodeAt f a).kids j) (atI (nodeAt f b).kids j)
      · rw [dec_pos (.mk a b hc hl hall)]
        refine ⟨_, Nat.le_refl _, fun j h0 h1 => ?_, fun _ => rfl, fun h => by cases h⟩
        have := ih _ (atI_mem h0 h1) (atI (nodeAt f b).kids j)
        rw [dec_pos (hall j h0 h1)] at this
        exact this
      · rw [dec_neg (p := EqN f a b) (fun h => by cases h with | mk _ _ _ _ hk => exact hall hk)]
        obtain ⟨n, n1, n2, n3⟩ := least (P := fun j : Nat => EqN f (atI (nodeAt f a).kids (j : Int)) (atI (nodeAt f b).kids (j : Int))) (n := (nodeAt f a).kids.length) (by
          by_cases h : ∃ j : Nat, j < (nodeAt f a).kids.length ∧ ¬ EqN f (atI (nodeAt f a).kids (j : Int)) (atI (nodeAt f b).kids (j : Int))
          · exact h
          · exfalso
            apply hall
            intro j h0 h1
            by_cases h2 : EqN f (atI (nodeAt f a).kids j) (atI (nodeAt f b).kids j)
            · exact h2
            · exact absurd ⟨j.toNat, by omega, by rw [show ((j.toNat : Nat) : Int) = j by omega]; exact h2⟩ h)
        refine ⟨n, by omega, fun j h0 h1 => ?_, fun h => (by cases h), fun _ => ⟨n1, ?_⟩⟩
        · have := ih _ (atI_mem h0 (by omega)) (atI (nodeAt f b).kids j)
          have h3 := n3 j.toNat (by omega)
          rw [show ((j.toNat : Nat) : Int) = j by omega] at h3
          rw [dec_pos h3] at this
          exact this
        · have := ih _ (atI_mem (i := (n : Int)) (by omega) (by omega)) (atI (nodeAt f b).kids (n : Int))
          rw [dec_neg n2] at this
          exact this
    · rw [if_neg hl, dec_neg (p := EqN f a b) (fun h => by cases h with | mk _ _ _ hl' _ => exact hl hl')]
  · rw [dec_neg (p := EqN f a b) (fun h => by cases h with | mk _ _ h _ _ => exact hc h)]
    exact equalNo_c f a b hf hc
end Go.Proofs.YteijifoobaoclaaGreat.A
namespace Go.Proofs.YteijifoobaoclaaGreat.A
set_option linter.unusedVariables false
set_option linter.unusedSimpArgs false
set_option maxRecDepth 100000
set_option maxHeartbeats 4000000
def sigA (x : Attr) : ByteArray × ByteArray × ByteArray := (x.name.sp, x.name.lc, x.value)
theorem sameA_sig (x y : Attr) : sameA x y ↔ sigA x = sigA y := by
  unfold sameA sigA
  simp only [Prod.mk.injEq]
theorem attrsGo_nodup : ∀ (l : List Attr) (seen : List (ByteArray × ByteArray)), attrsGo seen l = true → (l.map fun a => key a.name).Nodup ∧ ∀ a ∈ l, key a.name ∉ seen
  | [], _, _ => ⟨List.nodup_nil, fun a h => by cases h⟩
  | a :: r, seen, h => by
    rw [attrsGo] at h
    split at h
    · cases h
    split at h
    · cases h
    split at h
    · cases h
    rename_i h3
    rw [dec_true] at h3
    obtain ⟨h1, h2⟩ := attrsGo_nodup r _ h
    refine ⟨?_, ?_⟩
    · rw [List.map_cons, List.nodup_cons]
      refine ⟨fun hm => ?_, h1⟩
      obtain ⟨b, hb, e⟩ := List.mem_map.1 hm
      exact h2 b hb (by rw [e]; simp)
    · intro b hb
      rcases List.mem_cons.1 hb with rfl | hb
      · exact h3
      · exact fun hs => h2 b hb (by simp [hs])
theorem nodup_sig {l : List Attr} (h : (l.map fun a => key a.name).Nodup) : (l.map sigA).Nodup := by
  induction l with
  | nil => exact List.nodup_nil
  | cons a r ih =>
    rw [List.map_cons, List.nodup_cons] at h ⊢
    refine ⟨fun hm => h.1 ?_, ih h.2⟩
    obtain ⟨b, hb, e⟩ := List.mem_map.1 hm
    refine List.mem_map.2 ⟨b, hb, ?_⟩
    unfold sigA at e
    simp only [Prod.mk.injEq] at e
    unfold key
    rw [e.1, e.2.1]
def ndA (n : Node) : Prop := (n.attrs.map sigA).Nodup
theorem elP_sig (a b : Node) : elP a b ↔ a.name = b.name ∧ a.attrs.length = b.attrs.length ∧ ∀ x ∈ a.attrs.map sigA, x ∈ b.attrs.map sigA := by
  unfold elP
  simp only [sameA_sig, List.mem_map]
  constructor
  · rintro ⟨h1, h2, h3⟩
    refine ⟨h1, h2, ?_⟩
    rintro x ⟨y, hy, rfl⟩
    obtain ⟨z, hz, e⟩ := h3 y hy
    exact ⟨z, hz, e.symm⟩
  · rintro ⟨h1, h2, h3⟩
    refine ⟨h1, h2, fun x hx => ?_⟩
    obtain ⟨z, hz, e⟩ := h3 (sigA x) ⟨x, hx, rfl⟩
    exact ⟨z, hz, e.symm⟩
theorem elP_symm {a b : Node} (ha : ndA a) (h : elP a b) : elP b a := by
  rw [elP_sig] at h ⊢
  exact ⟨h.1.symm, h.2.1.symm, nodup_ge ha h.2.2 (by simp only [List.length_map]; exact h.2.1)⟩
theorem elP_trans {a b c : Node} (h : elP a b) (h2 : elP b c) : elP a c := by
  rw [elP_sig] at *
  exact ⟨h.1.trans h2.1, h.2.1.trans h2.2.1, fun x hx => h2.2.2 x (h.2.2 x hx)⟩
theorem elP_refl (a : Node) : elP a a := by
  rw [elP_sig]
  exact ⟨rfl, rfl, fun x hx => hx⟩
theorem cmpP_refl (k : Int) (a : Node) : cmpP k a a := ⟨fun _ => ⟨rfl, rfl, rfl⟩, fun _ _ => elP_refl a, fun _ _ _ => ⟨rfl, rfl⟩⟩
theorem cmpP_symm {k : Int} {a b : Node} (ha : ndA a) (h : cmpP k a b) : cmpP k b a := by
  refine ⟨fun e => ?_, fun e1 e2 => elP_symm ha (h.2.1 e1 e2), fun e1 e2 e3 => ?_⟩
  · have := h.1 e
    exact ⟨this.1.symm, this.2.1.symm, this.2.2.symm⟩
  · have := h.2.2 e1 e2 e3
    exact ⟨this.1.symm, this.2.symm⟩
theorem cmpP_trans {k : Int} {a b c : Node} (h : cmpP k a b) (g : cmpP k b c) : cmpP k a c := by
  refine ⟨fun e => ?_, fun e1 e2 => elP_trans (h.2.1 e1 e2) (g.2.1 e1 e2), fun e1 e2 e3 => ?_⟩
  · have h := h.1 e
    have g := g.1 e
    exact ⟨h.1.trans g.1, h.2.1.trans g.2.1, h.2.2.trans g.2.2⟩
  · have h := h.2.2 e1 e2 e3
    have g := g.2.2 e1 e2 e3
    exact ⟨h.1.trans g.1, h.2.trans g.2⟩
section
variable {f : List Node}
theorem right_nd (hr : rightP f) (a : Int) : ndA (nodeAt f a) := by
  by_cases ha : inR f a
  · have h := (right_node hr ha).1.1.2.2
    unfold attrsB at h
    rw [Bool.and_eq_true] at h
    exact nodup_sig (attrsGo_nodup _ _ h.2).1
  · rw [node_out ha]
    exact List.nodup_nil
theorem eqN_refl (hr : rightP f) : ∀ a, EqN f a a := right_ind hr _ fun a ih => .mk a a ⟨rfl, cmpP_refl _ _⟩ rfl fun j h0 h1 => ih _ (atI_mem h0 h1)
theorem eqN_symm (hr : rightP f) {a b : Int} (h : EqN f a b) : EqN f b a := by
  induction h with
  | mk a b h hl hk ih => exact .mk b a ⟨h.1.symm, h.1 ▸ cmpP_symm (right_nd hr a) h.2⟩ hl.symm fun j h0 h1 => ih j h0 (by rw [hl]; exact h1)
theorem eqN_trans {a b c : Int} (h : EqN f a b) (g : EqN f b c) : EqN f a c := by
  induction h generalizing c with
  | mk a b h hl hk ih =>
    cases g with
    | mk _ _ g gl gk => exact .mk a c ⟨h.1.trans g.1, cmpP_trans h.2 (h.1 ▸ g.2)⟩ (hl.trans gl) fun j h0 h1 => ih j h0 h1 (gk j h0 (by rw [← hl]; exact h1))
end
noncomputable def eqR (f : List Node) (a b : Int) : Bool := if faultR f [a, b] = 0 then dec (EqN f a b) else false
theorem faultR_right {f : List Node} {l : List Int} (h : faultR f l = 0) : rightP f := by
  unfold faultR at h
  by_cases hr : rightP f
  · exact hr
  · rw [if_neg (by rw [dec_true]; exact hr)] at h
    cases h
theorem faultR_comm (f : List Node) (a b : Int) : faultR f [a, b] = faultR f [b, a] := by
  unfold faultR
  rw [show ([a, b].all fun h => inB f h) = ([b, a].all fun h => inB f h) by simp [Bool.and_comm]]
theorem equalR_c (f : List Node) (a b : Int) (hf : Fit f) : PureC Tryz.prog 18 [fav f, iav a, iav b] (.tup [bav (eqR f a b), iav (faultR f [a, b])]) := by
  unfold eqR
  by_cases h : faultR f [a, b] = 0
  · rw [if_pos h, h]
    exact equal_c f a b _ hf (equal_all f hf (faultR_right h) a b) h
  · rw [if_neg h]
    exact equalF_c f a b hf h
/-- The law of equality, whole: of every forest that is short enough to be. -/
theorem equality_all (f : List Node) (a b c : Int) (hf : Fit f) : PureC Tryz.prog 8 [fav f, iav a, iav b, iav c] (bav true) := by
  refine equality_c f a b c _ _ _ _ _ _ _ _ _ _ begins_true (equalR_c f a b hf) (equalR_c f b a hf) (equalR_c f b c hf) (equalR_c f a c hf) (equalR_c f a a hf) ?_ (faultR_comm f a b) ?_ ?_
  · intro h
    unfold eqR
    rw [if_pos h, dec_true]
    exact eqN_refl (faultR_right h) a
  · unfold eqR
    rw [faultR_comm f a b]
    split
    · rename_i h
      rw [Bool.eq_iff_iff, dec_true, dec_true]
      exact ⟨eqN_symm (faultR_right h), eqN_symm (faultR_right h)⟩
    · rfl
  · intro h1 h2 h3 h4 h5
    unfold eqR at *
    rw [if_pos h1, dec_true] at h4
    rw [if_pos h2, dec_true] at h5
    rw [if_pos h3, dec_true]
    exact eqN_trans h4 h5
end Go.Proofs.YteijifoobaoclaaGreat.A
namespace Go.Proofs.YteijifoobaoclaaGreat.A
set_option linter.unusedVariables false
set_option linter.unusedSimpArgs false
set_option maxRecDepth 100000
set_option maxHeartbeats 4000000
/-- What a change of the copying does: a node that is made, one that is put in. -/
noncomputable def doneC (f : List Node) (c : Change) : List Node × Int :=
  if c.kind = 1 then doneM f c.made
  else if 1 ≤ c.node ∧ c.node ≤ f.length ∧ 1 ≤ c.parent ∧ c.parent ≤ f.length ∧ (atI f (c.node - 1)).parent = 0 then doneI f c else ([], 2)
def CpCh (f : List Node) (c : Change) : Prop := (∃ n, FitN n ∧ n.kind ≠ 12 ∧ c = mkCh (f.length + 1) n) ∨ (∃ x p, c = inCh x p (nodeAt f p).kids.length)
theorem kidsGo_nodup {f : List Node} {h doc : Int} : ∀ (l seen : List Int), kidsGo f h doc seen l = true → l.Nodup ∧ ∀ k ∈ l, k ∉ seen
  | [], _, _ => ⟨List.nodup_nil, fun a h => by cases h⟩
  | x :: r, seen, hg => by
    rw [kidsGo] at hg
    split at hg
    · cases hg
    split at hg
    · cases hg
    rename_i h2
    split at hg
    · cases hg
    split at hg
    · cases hg
    rw [dec_true] at h2
    obtain ⟨h3, h4⟩ := kidsGo_nodup r _ hg
    refine ⟨List.nodup_cons.2 ⟨fun hm => h4 x hm (by simp), h3⟩, fun k hk => ?_⟩
    rcases List.mem_cons.1 hk with rfl | hk
    · exact h2
    · exact fun hs => h4 k hk (by simp [hs])
theorem kidsGo_doc {f : List Node} {h doc : Int} : ∀ (l seen : List Int), kidsGo f h doc seen l = true → ∀ k ∈ l, (nodeAt f k).doc = doc
  | [], _, _, k, hk => by cases hk
  | x :: r, seen, hg, k, hk => by
    rw [kidsGo] at hg
    split at hg
    · cases hg
    split at hg
    · cases hg
    split at hg
    · cases hg
    split at hg
    · cases hg
    rename_i h4
    rcases List.mem_cons.1 hk with rfl | hk
    · rw [dec_false, Decidable.not_not] at h4
      exact h4
    · exact kidsGo_doc r _ hg k hk
theorem famGo_kinds {K : Int → Int} {d : Bool} : ∀ (l : List Int) (e t : Int), famGo K d l e t = true → ∀ k ∈ l, K k = 1 ∨ K k = 10 ∨ K k = 3 ∨ K k = 4 ∨ K k = 8 ∨ K k = 7
  | [], _, _, _, k, hk => by cases hk
  | x :: r, e, t, hg, k, hk => by
    rw [famGo] at hg
    rcases List.mem_cons.1 hk with rfl | hk
    · split at hg
      · rename_i h; exact .inl h
      split at hg
      · rename_i h; exact .inr (.inl h)
      split at hg
      · rename_i h
        rcases h with h | h
        · exact .inr (.inr (.inl h))
        · exact .inr (.inr (.inr (.inl h)))
      split at hg
      · rename_i h
        rcases h with h | h
        · exact .inr (.inr (.inr (.inr (.inl h))))
        · exact .inr (.inr (.inr (.inr (.inr h))))
      · cases hg
    · split at hg
      · exact famGo_kinds r _ _ hg k hk
      split at hg
      · split at hg
        · cases hg
        · exact famGo_kinds r _ _ hg k hk
      split at hg
      · split at hg
        · cases hg
        · exact famGo_kinds r _ _ hg k hk
      split at hg
      · exact famGo_kinds r _ _ hg k hk
      · cases hg
section
variable {f : List Node}
theorem right_kidsB (hr : rightP f) {a : Int} (ha : inR f a) : kidsGo f a (nodeAt f a).doc [] (nodeAt f a).kids = true ∧ famB f (nodeAt f a) = true := by
  obtain ⟨_, hl, _⟩ := right_node hr ha
  have hkb := hl.2.2.2.2
  unfold kidsB at hkb
  simpa only [Bool.and_eq_true] using hkb
theorem right_kinds (hr : rightP f) {a k : Int} (hk : k ∈ (nodeAt f a).kids) : (nodeAt f k).kind ≠ 12 ∧ (nodeAt f k).kind ≠ 9 := by
  by_cases ha : inR f a
  · have := famGo_kinds _ _ _ (right_kidsB hr ha).2 k hk
    omega
  · rw [node_out ha] at hk
    cases hk
theorem right_few (hr : rightP f) (a : Int) : (nodeAt f a).kids.length ≤ 4096 := by
  by_cases ha : inR f a
  · have hn := (kidsGo_nodup _ _ (right_kidsB hr ha).1).1
    have := nodup_le hn (m := (List.range f.length).map fun j : Nat => (j : Int) + 1) fun x hx => by
      obtain ⟨h, _⟩ := right_kid hr ha hx
      have h1 := h.1
      have h2 := h.2
      exact List.mem_map.2 ⟨(x - 1).toNat, List.mem_range.2 (by omega), by omega⟩
    have h4 := hr.1
    simp at this
    omega
  · rw [node_out ha]
    simp [n0]
theorem node_in {a : Int} (ha : inR f a) : nodeAt f a = atI f (a - 1) := by unfold nodeAt; rw [if_pos (show 1 ≤ a ∧ a ≤ (f.length : Int) from ha)]
end
theorem doneC_c (f : List Node) (c : Change) (hf : Fit f) (hr : rightP f) (h0 : 0 < f.length) (hc : CpCh f c) : PureC Tryz.prog 38 [fav f, c.av] (.tup [fav (doneC f c).1, iav (doneC f c).2]) := by
  rcases hc with ⟨n, hn, hk, rfl⟩ | ⟨x, p, rfl⟩
  · exact doneM_c f n hf hn h0 hk
  · have e : doneC f (inCh x p (nodeAt f p).kids.length) = if 1 ≤ x ∧ x ≤ f.length ∧ 1 ≤ p ∧ p ≤ f.length ∧ (atI f (x - 1)).parent = 0 then doneI f (inCh x p (nodeAt f p).kids.length) else ([], 2) := rfl
    rw [e]
    by_cases h : 1 ≤ x ∧ x ≤ f.length ∧ 1 ≤ p ∧ p ≤ f.length ∧ (atI f (x - 1)).parent = 0
    · rw [if_pos h]
      obtain ⟨h1, h2, h3, h4, h5⟩ := h
      have hp : nodeAt f p = atI f (p - 1) := node_in ⟨h3, h4⟩
      have hfew := right_few hr p
      rw [hp] at hfew
      by_cases hk : (atI f (p - 1)).kids = []
      · exact doneI0_c f _ hf h0 rfl rfl (by show (atI f (p - 1)).kids.length < 1000000000; omega) h1 h2 h3 h4 (by show ((nodeAt f p).kids.length : Int) = _; rw [hp]; rfl) hk h5
      · exact doneIK_c f _ hf h0 rfl rfl (by show (atI f (p - 1)).kids.length < 1000000000; omega) h1 h2 h3 h4 (by show ((nodeAt f p).kids.length : Int) = _; rw [hp]; rfl) hk h5
    · rw [if_neg h]
      by_cases h6 : 1 ≤ x ∧ x ≤ f.length ∧ 1 ≤ p ∧ p ≤ f.length
      · exact doneIno_c f _ hf h0 rfl rfl h6.1 h6.2.1 h6.2.2.1 h6.2.2.2 (fun h7 => h ⟨h6.1, h6.2.1, h6.2.2.1, h6.2.2.2, h7⟩)
      · exact doneIout_c f _ hf h0 rfl rfl h6
/-- A step of the pen, in plain words. -/
inductive DoP : PS → Change → PS → Bool → Prop
  | stop (p : PS) (c : Change) (h : p.why ≠ 0) : DoP p c p false
  | bad (p : PS) (c : Change) (h0 : p.why = 0) (hw : (doneC p.F c).2 ≠ 0) : DoP p c ⟨p.F, p.L, (doneC p.F c).2⟩ false
  | ok (p : PS) (c : Change) (h0 : p.why = 0) (hw : (doneC p.F c).2 = 0) : DoP p c ⟨(doneC p.F c).1, p.L ++ [c], 0⟩ true
theorem DoP.ex (p : PS) (c : Change) : ∃ q b, DoP p c q b := by
  by_cases h : p.why = 0
  · by_cases hw : (doneC p.F c).2 = 0
    · exact ⟨_, _, .ok p c h hw⟩
    · exact ⟨_, _, .bad p c h hw⟩
  · exact ⟨_, _, .stop p c h⟩
theorem DoP.two {p q : PS} {c : Change} {b : Bool} (h : DoP p c q b) : (b = false ∧ q.why ≠ 0 ∧ q.F = p.F ∧ q.L = p.L) ∨ (b = true ∧ p.why = 0 ∧ (doneC p.F c).2 = 0 ∧ q.why = 0 ∧ q.F = (doneC p.F c).1 ∧ q.L = p.L ++ [c]) := by
  cases h with
  | stop h => exact .inl ⟨rfl, h, rfl, rfl⟩
  | bad h0 hw => exact .inl ⟨rfl, hw, rfl, rfl⟩
  | ok h0 hw => exact .inr ⟨rfl, h0, hw, rfl, rfl, rfl⟩
theorem DoP.stuck {p q : PS} {c : Change} {b : Bool} (h : DoP p c q b) (hw : p.why ≠ 0) : q = p := by
  cases h with
  | stop h => rfl
  | bad h0 _ => exact absurd h0 hw
  | ok h0 _ => exact absurd h0 hw
structure Inv (p : PS) : Prop where
  fit : Fit p.F
  right : rightP p.F
  pos : 0 < p.F.length
  chs : ∀ c ∈ p.L, FitC c
theorem mk_fitC (k : Int) {n : Node} (h : FitN n) : FitC (mkCh k n) := ⟨by simp [mkCh, c0], h, by simp [mkCh, c0], by simp [mkCh, c0]⟩
theorem in_fitC (a b c : Int) : FitC (inCh a b c) := ⟨by simp [inCh, c0], fit0, by simp [inCh, c0], by simp [inCh, c0]⟩
/-- What a change that was done has made. -/
theorem doneC_ok {f : List Node} {c : Change} (hf : Fit f) (hr : rightP f) (hc : CpCh f c) (hw : (doneC f c).2 = 0) : Fit (doneC f c).1 ∧ rightP (doneC f c).1 ∧ f.length ≤ (doneC f c).1.length ∧ FitC c := by
  rcases hc with ⟨n, hn, hk, rfl⟩ | ⟨x, p, rfl⟩
  · have e : doneC f (mkCh (f.length + 1) n) = doneM f n := rfl
    rw [e] at hw ⊢
    unfold doneM at hw ⊢
    by_cases h1 : 4096 ≤ f.length
    · rw [if_pos h1] at hw; cases hw
    · rw [if_neg h1] at hw ⊢
      by_cases h2 : rightP (f ++ [n])
      · rw [if_pos (by rw [dec_true]; exact h2)]
        exact ⟨hf.snoc (by omega) hn, h2, by simp, mk_fitC _ hn⟩
      · rw [if_neg (by rw [dec_true]; exact h2)] at hw; cases hw
  · have e : doneC f (inCh x p (nodeAt f p).kids.length) = if 1 ≤ x ∧ x ≤ f.length ∧ 1 ≤ p ∧ p ≤ f.length ∧ (atI f (x - 1)).parent = 0 then doneI f (inCh x p (nodeAt f p).kids.length) else ([], 2) := rfl
    rw [e] at hw ⊢
    by_cases h : 1 ≤ x ∧ x ≤ f.length ∧ 1 ≤ p ∧ p ≤ f.length ∧ (atI f (x - 1)).parent = 0
    · rw [if_pos h] at hw ⊢
      unfold doneI at hw ⊢
      by_cases h2 : rightP (insF f x p)
      · have e2 : (if dec (rightP (insF f (inCh x p (nodeAt f p).kids.length).node (inCh x p (nodeAt f p).kids.length).parent)) = true then (insF f (inCh x p (nodeAt f p).kids.length).node (inCh x p (nodeAt f p).kids.length).parent, (0 : Int)) else ([], 2)) = (insF f x p, 0) := if_pos (by rw [dec_true]; exact h2)
        rw [e2]
        have hfew := right_few hr p
        rw [node_in ⟨h.2.2.1, h.2.2.2.1⟩] at hfew
        exact ⟨insF_fit f (inCh x p 0) hf h.1 h.2.1 h.2.2.1 h.2.2.2.1 (by show (atI f (p - 1)).kids.length < 1000000000; omega), h2, by rw [insF_len]; exact Nat.le_refl _, in_fitC _ _ _⟩
      · rw [if_neg (by rw [dec_true]; exact h2)] at hw; cases hw
    · rw [if_neg h] at hw; cases hw
theorem DoP.inv {p q : PS} {c : Change} {b : Bool} (h : DoP p c q b) (hp : Inv p) (hc : CpCh p.F c) : Inv q := by
  rcases h.two with ⟨_, _, h3, h4⟩ | ⟨_, _, h2, _, h3, h4⟩
  · exact ⟨h3 ▸ hp.fit, h3 ▸ hp.right, h3 ▸ hp.pos, h4 ▸ hp.chs⟩
  · obtain ⟨a1, a2, a3, a4⟩ := doneC_ok hp.fit hp.right hc h2
    have hpp := hp.pos
    refine ⟨h3 ▸ a1, h3 ▸ a2, by rw [h3]; omega, fun d hd => ?_⟩
    rw [h4] at hd
    simp only [List.mem_append, List.mem_singleton] at hd
    rcases hd with hd | rfl
    · exact hp.chs d hd
    · exact a4
theorem DoP.toR {p q : PS} {c : Change} {b : Bool} (h : DoP p c q b) (hp : Inv p) (hc : CpCh p.F c) : DoR p c q b := by
  have ha := apply_c _ _ _ _ hp.fit hp.right (doneC_c p.F c hp.fit hp.right hp.pos hc)
  cases h with
  | stop h => exact .stop p c h
  | bad h0 hw => exact .bad p c _ _ h0 hw ha
  | ok h0 hw => exact .ok p c _ h0 (by rw [hw] at ha; exact ha)
mutual
inductive OneP (f : List Node) (deep : Bool) : PS → Int → Int → Int → PS → Int → Prop
  | mk (p p1 p2 q : PS) (h doc doc' parent x : Int) (b1 : Bool)
      (hd9 : (nodeAt f h).kind = 9 → doc' = p.F.length + 1) (hd : (nodeAt f h).kind ≠ 9 → doc' = doc) (hmk : DoP p (mkCh (p.F.length + 1) (copiedOf (nodeAt f h) doc')) p1 b1) (hx : x = mkX p b1)
      (hi0 : parent = 0 → p2 = p1) (hi1 : parent ≠ 0 → ∃ b2, DoP p1 (inCh x parent (nodeAt p1.F parent).kids.length) p2 b2)
      (hk0 : deep = false → q = p2) (hk1 : deep = true → KidsP f deep p2 (nodeAt f h).kids doc' x q) : OneP f deep p h doc parent q x
inductive KidsP (f : List Node) (deep : Bool) : PS → List Int → Int → Int → PS → Prop
  | nil (p : PS) (doc x : Int) : KidsP f deep p [] doc x p
  | cons (p p1 q : PS) (k : Int) (r : List Int) (doc x y : Int) (h1 : OneP f deep p k doc x p1 y) (h2 : KidsP f deep p1 r doc x q) : KidsP f deep p (k :: r) doc x q
end
theorem OneP.ex {f : List Node} (hr : rightP f) (deep : Bool) : ∀ (h : Int) (p : PS) (doc parent : Int), ∃ q x, OneP f deep p h doc parent q x := by
  refine right_ind hr (fun h => ∀ (p : PS) (doc parent : Int), ∃ q x, OneP f deep p h doc parent q x) fun h ih p doc parent => ?_
  have hkids : ∀ (l : List Int), (∀ k ∈ l, k ∈ (nodeAt f h).kids) → ∀ (p : PS) (doc x : Int), ∃ q, KidsP f deep p l doc x q := by
    intro l
    induction l with
    | nil => exact fun _ p doc x => ⟨p, .nil p doc x⟩
    | cons k r ihr =>
      intro hl p doc x
      obtain ⟨p1, y, h1⟩ := ih k (hl k (by simp)) p doc x
      obtain ⟨q, h2⟩ := ihr (fun j hj => hl j (by simp [hj])) p1 doc x
      exact ⟨q, .cons p p1 q k r doc x y h1 h2⟩
  obtain ⟨doc', hd9, hd⟩ : ∃ doc' : Int, ((nodeAt f h).kind = 9 → doc' = p.F.length + 1) ∧ ((nodeAt f h).kind ≠ 9 → doc' = doc) := by
    by_cases h9 : (nodeAt f h).kind = 9
    · exact ⟨_, fun _ => rfl, fun h => absurd h9 h⟩
    · exact ⟨_, fun h => absurd h h9, fun _ => rfl⟩
  obtain ⟨p1, b1, hmk⟩ := DoP.ex p (mkCh (p.F.length + 1) (copiedOf (nodeAt f h) doc'))
  obtain ⟨p2, hi0, hi1⟩ : ∃ p2, (parent = 0 → p2 = p1) ∧ (parent ≠ 0 → ∃ b2, DoP p1 (inCh (mkX p b1) parent (nodeAt p1.F parent).kids.length) p2 b2) := by
    by_cases h0 : parent = 0
    · exact ⟨p1, fun _ => rfl, fun h => absurd h0 h⟩
    · obtain ⟨p2, b2, h2⟩ := DoP.ex p1 (inCh (mkX p b1) parent (nodeAt p1.F parent).kids.length)
      exact ⟨p2, fun h => absurd h h0, fun _ => ⟨b2, h2⟩⟩
  cases deep with
  | false => exact ⟨p2, _, .mk p p1 p2 p2 h doc doc' parent _ b1 hd9 hd hmk rfl hi0 hi1 (fun _ => rfl) (fun h => by cases h)⟩
  | true =>
    obtain ⟨q, hq⟩ := hkids (nodeAt f h).kids (fun _ hk => hk) p2 doc' (mkX p b1)
    exact ⟨q, _, .mk p p1 p2 q h doc doc' parent _ b1 hd9 hd hmk rfl hi0 hi1 (fun h => by cases h) (fun _ => hq)⟩
theorem copied_fit {n : Node} (h : FitN n) (d : Int) : FitN (copiedOf n d) := ⟨h.data, h.attrs, by simp [copiedOf, n0]⟩
/-- how many changes there are: no more than two for a node -/
def Slim (p q : PS) : Prop := p.F.length ≤ q.F.length ∧ q.L.length + 2 * p.F.length ≤ p.L.length + 2 * q.F.length
theorem Slim.refl (p : PS) : Slim p p := ⟨Nat.le_refl _, by omega⟩
theorem Slim.trans {p q r : PS} (a : Slim p q) (b : Slim q r) : Slim p r := ⟨Nat.le_trans a.1 b.1, by have := a.2; have := b.2; omega⟩
theorem doM_len {f : List Node} {n : Node} (hw : (doneC f (mkCh (f.length + 1) n)).2 = 0) : (doneC f (mkCh (f.length + 1) n)).1 = f ++ [n] ∧ f.length < 4096 := by
  have e : doneC f (mkCh (f.length + 1) n) = doneM f n := rfl
  rw [e] at hw ⊢
  unfold doneM at hw ⊢
  by_cases h1 : 4096 ≤ f.length
  · rw [if_pos h1] at hw; cases hw
  · rw [if_neg h1] at hw ⊢
    by_cases h2 : dec (rightP (f ++ [n])) = true
    · rw [if_pos h2]; exact ⟨rfl, by omega⟩
    · rw [if_neg h2] at hw; cases hw
theorem doI_ins {f : List Node} {x p i : Int} (hw : (doneC f (inCh x p i)).2 = 0) : (doneC f (inCh x p i)).1 = insF f x p ∧ inR f x ∧ inR f p ∧ (atI f (x - 1)).parent = 0 := by
  have e : doneC f (inCh x p i) = if 1 ≤ x ∧ x ≤ f.length ∧ 1 ≤ p ∧ p ≤ f.length ∧ (atI f (x - 1)).parent = 0 then doneI f (inCh x p i) else ([], 2) := rfl
  rw [e] at hw ⊢
  by_cases h : 1 ≤ x ∧ x ≤ f.length ∧ 1 ≤ p ∧ p ≤ f.length ∧ (atI f (x - 1)).parent = 0
  · rw [if_pos h] at hw ⊢
    refine ⟨?_, ⟨h.1, h.2.1⟩, ⟨h.2.2.1, h.2.2.2.1⟩, h.2.2.2.2⟩
    unfold doneI at hw ⊢
    by_cases h2 : dec (rightP (insF f (inCh x p i).node (inCh x p i).parent)) = true
    · rw [if_pos h2]; rfl
    · rw [if_neg h2] at hw; cases hw
  · rw [if_neg h] at hw; cases hw
theorem one_slim {p p1 p2 : PS} {n : Node} {b1 : Bool} {x parent i : Int} (hmk : DoP p (mkCh (p.F.length + 1) n) p1 b1) (hi0 : parent = 0 → p2 = p1) (hi1 : parent ≠ 0 → ∃ b2, DoP p1 (inCh x parent i) p2 b2) : Slim p p2 := by
  rcases hmk.two with ⟨_, a2, a3, a4⟩ | ⟨_, _, a2, a5, a3, a4⟩
  · have e : p2 = p1 := by
      by_cases h : parent = 0
      · exact hi0 h
      · obtain ⟨b2, h2⟩ := hi1 h
        exact h2.stuck a2
    rw [e]
    exact ⟨by rw [a3]; exact Nat.le_refl _, by rw [a3, a4]; omega⟩
  · have hl := (doM_len a2).1
    have hF : p1.F.length = p.F.length + 1 := by rw [a3, hl]; simp
    have hL : p1.L.length = p.L.length + 1 := by rw [a4]; simp
    by_cases h : parent = 0
    · rw [hi0 h]
      exact ⟨by omega, by omega⟩
    · obtain ⟨b2, h2⟩ := hi1 h
      rcases h2.two with ⟨_, _, c3, c4⟩ | ⟨_, _, c2, _, c3, c4⟩
      · exact ⟨by rw [c3]; omega, by rw [c3, c4]; omega⟩
      · have := (doI_ins c2).1
        have h3 : p2.F.length = p1.F.length := by rw [c3, this, insF_len]
        have h4 : p2.L.length = p1.L.length + 1 := by rw [c4]; simp
        exact ⟨by omega, by omega⟩
/-- The plain steps are the machine's. -/
theorem OneP.toR {f : List Node} (hf : Fit f) (hr : rightP f) (deep : Bool) {p : PS} {h doc parent : Int} {q : PS} {x : Int} (H : OneP f deep p h doc parent q x) : (nodeAt f h).kind ≠ 12 → Inv p → p.L.length ≤ 2 * p.F.length → OneR f deep p h doc parent q x ∧ Inv q ∧ Slim p q := by
  refine OneP.rec (motive_1 := fun p h doc parent q x _ => (nodeAt f h).kind ≠ 12 → Inv p → p.L.length ≤ 2 * p.F.length → OneR f deep p h doc parent q x ∧ Inv q ∧ Slim p q) (motive_2 := fun p l doc x q _ => (∀ k ∈ l, (nodeAt f k).kind ≠ 12) → Inv p → p.L.length ≤ 2 * p.F.length → KidsR f deep p l doc x q ∧ Inv q ∧ Slim p q) ?_ ?_ ?_ H
  · intro p p1 p2 q h doc doc' parent x b1 hd9 hd hmk hx hi0 hi1 hk0 hk1 ih h12 hp hL
    have hc1 : CpCh p.F (mkCh (p.F.length + 1) (copiedOf (nodeAt f h) doc')) := .inl ⟨_, copied_fit (hf.at h) _, h12, rfl⟩
    have hp1 := hmk.inv hp hc1
    have hc2 : CpCh p1.F (inCh x parent (nodeAt p1.F parent).kids.length) := .inr ⟨_, _, rfl⟩
    have hs := one_slim hmk hi0 hi1
    have hp2 : Inv p2 := by
      by_cases h0 : parent = 0
      · rw [hi0 h0]; exact hp1
      · obtain ⟨b2, h2⟩ := hi1 h0
        exact h2.inv hp1 hc2
    have hs1 := one_slim (parent := 0) (x := 0) (i := 0) (p2 := p1) hmk (fun _ => rfl) (fun h => absurd rfl h)
    have l0 := hp.right.1
    have l1 := hp1.right.1
    have s2 := hs.2
    have s1 := hs1.2
    have t1 := hs1.1
    have t2 := hs.1
    have hk : deep = true → KidsR f deep p2 (nodeAt f h).kids doc' x q ∧ Inv q ∧ Slim p2 q := fun hdp => ih hdp (fun k hk => (right_kinds hr hk).1) hp2 (by omega)
    refine ⟨.mk p p1 p2 q h doc doc' parent x b1 (by omega) (by omega) (by omega) (by omega) (hf.at h).kids hd9 hd (hmk.toR hp hc1) hx hi0 (fun h0 => ?_) hk0 (fun hdp => (hk hdp).1), ?_, ?_⟩
    · obtain ⟨b2, h2⟩ := hi1 h0
      exact ⟨b2, h2.toR hp1 hc2⟩
    · cases hdp : deep with
      | false => rw [hk0 hdp]; exact hp2
      | true => exact (hk hdp).2.1
    · cases hdp : deep with
      | false => rw [hk0 hdp]; exact hs
      | true => exact hs.trans (hk hdp).2.2
  · intro p doc x _ hp _
    exact ⟨.nil p doc x, hp, Slim.refl p⟩
  · intro p p1 q k r doc x y h1 h2 ih1 ih2 hkk hp hL
    obtain ⟨a1, a2, a3⟩ := ih1 (hkk k (by simp)) hp hL
    have t1 := a3.1
    have t2 := a3.2
    obtain ⟨b1, b2, b3⟩ := ih2 (fun j hj => hkk j (by simp [hj])) a2 (by omega)
    exact ⟨.cons p p1 q k r doc x y a1 b1, b2, a3.trans b3⟩
theorem OneP.stuck {f : List Node} {deep : Bool} {p : PS} {h doc parent : Int} {q : PS} {x : Int} (H : OneP f deep p h doc parent q x) : p.why ≠ 0 → q = p := by
  refine OneP.rec (motive_1 := fun p h doc parent q x _ => p.why ≠ 0 → q = p) (motive_2 := fun p l doc x q _ => p.why ≠ 0 → q = p) ?_ ?_ ?_ H
  · intro p p1 p2 q h doc doc' parent x b1 hd9 hd hmk hx hi0 hi1 hk0 hk1 ih hw
    have e1 := hmk.stuck hw
    have e2 : p2 = p := by
      by_cases h0 : parent = 0
      · rw [hi0 h0, e1]
      · obtain ⟨b2, h2⟩ := hi1 h0
        rw [h2.stuck (by rw [e1]; exact hw), e1]
    cases hdp : deep with
    | false => rw [hk0 hdp, e2]
    | true => rw [ih hdp (by rw [e2]; exact hw), e2]
  · exact fun p doc x _ => rfl
  · intro p p1 q k r doc x y h1 h2 ih1 ih2 hw
    have e1 := ih1 hw
    rw [ih2 (by rw [e1]; exact hw), e1]
theorem KidsP.stuck {f : List Node} {deep : Bool} {l : List Int} {p q : PS} {doc x : Int} (H : KidsP f deep p l doc x q) : p.why ≠ 0 → q = p := by
  induction l generalizing p with
  | nil => cases H; exact fun _ => rfl
  | cons k r ih =>
    intro hw
    cases H
    rename_i p1 y h1 h2
    have e1 := h1.stuck hw
    rw [ih h2 (by rw [e1]; exact hw), e1]
end Go.Proofs.YteijifoobaoclaaGreat.A
namespace Go.Proofs.YteijifoobaoclaaGreat.A
set_option linter.unusedVariables false
set_option linter.unusedSimpArgs false
set_option maxRecDepth 100000
set_option maxHeartbeats 4000000
theorem cloneNo_c (f : List Node) (h w : Int) (deep : Bool) (hf : Fit f) (hff : faultR f [h] = w) (hw : w ≠ 0) : PureC Tryz.prog 11 [fav f, iav h, bav deep] (noA w) := by
  have hfa := fault_c f [h] hf (by simp)
  rw [hff] at hfa
  refine PureC.mk tabs Tryz.func11 40 [.cell 6 24, .tmp 7, .tmp 8, .tmp 9] rfl rfl rfl rfl rfl ?_; intro w0 X
  (repeat' (first | ((with_reducible show AL _ _ _ _ _); first | (refine AL.step tabs rfl ?_; try dsimp only [len, List.nil_append, List.cons_append]) | refine AL.op rfl (OpOK.callfz rfl rfl rfl rfl hfa rfl rfl) ?_ | refine AL.op rfl (OpOK.call rfl rfl rfl rfl (treeAt_c f h hf.len) rfl) ?_ | refine AL.nil ?_ | (refine AL.gsplitE rfl rfl rfl (fun hc => ?_) (fun hc => ?_) <;> (fail_if_success (exact absurd hc (by decide))) <;> (try simp only [hsx] at hc) <;> (try first | (exfalso; omega) | contradiction | (exfalso; simp [dec_eq] at hc; done))) | (refine AL.op rfl (OpOK.ari64 rfl rfl rfl rfl rfl (by omega) (by omega)) ?_) | (refine AL.op rfl (OpOK.index_map tabs rfl rfl rfl rfl rfl rfl rfl (fun _ => rfl) (by decide) (by omega) (by omega)) ?_) | (refine AL.op rfl (OpOK.eqs rfl rfl rfl rfl eqt45 rfl rfl) ?_) | (refine AL.op rfl (OpOK.eqs rfl rfl rfl rfl eqt68 rfl rfl) ?_) | (refine AL.op rfl (OpOK.eqs rfl rfl rfl rfl eqt146 rfl rfl) ?_) | (refine AL.op rfl (OpOK.eqs rfl rfl rfl rfl eqt151 rfl rfl) ?_)) | ((with_reducible show DQ _ _ _ _ _ _); first | refine DQ.stepc (LS.val tabs rfl rfl rfl) rfl rfl rfl rfl rfl ?_ | refine DQ.stepc (LS.skip rfl rfl) rfl rfl rfl rfl rfl ?_ | refine DQ.nilM (by kernel_rfl) ?_ | refine DQ.stepc (LS.ari64 rfl rfl rfl rfl rfl rfl (by omega) (by omega)) rfl rfl rfl rfl rfl ?_ | refine DQ.stepc (LS.index_map tabs rfl rfl rfl rfl rfl rfl rfl rfl (fun _ => rfl) (by decide) (by omega) (by omega)) rfl rfl rfl rfl rfl ?_ | (refine DQ.gsplitE rfl rfl rfl (fun hc => ?_) (fun hc => ?_) <;> (fail_if_success (exact absurd hc (by decide))) <;> (try simp only [hsx] at hc) <;> (try first | (exfalso; omega) | contradiction | (exfalso; simp [dec_eq] at hc; done))) | refine DQ.stepc (LS.eqs rfl rfl rfl rfl rfl eqt45 rfl rfl) rfl rfl rfl rfl rfl ?_ | refine DQ.stepc (LS.eqs rfl rfl rfl rfl rfl eqt68 rfl rfl) rfl rfl rfl rfl rfl ?_ | refine DQ.stepc (LS.eqs rfl rfl rfl rfl rfl eqt146 rfl rfl) rfl rfl rfl rfl rfl ?_ | refine DQ.stepc (LS.eqs rfl rfl rfl rfl rfl eqt151 rfl rfl) rfl rfl rfl rfl rfl ?_) | (refine AW.drawQ (id := 6) ?_ ?_; (exfalso; first | exact hw hc | exact hc hw | omega)) | refine AW.seq ?_ | refine AW.region ?_ | refine Then.norm ?_ | refine AW.skip ?_ | refine AW.block ?_ | refine InB.norm ?_ | refine AW.condT rfl ?_ | refine AW.condF rfl ?_ | (refine AW.cond rfl (fun hc => ?_) (fun hc => ?_) <;> (try simp only [hsx] at hc) <;> (try first | (exfalso; omega) | contradiction | (exfalso; simp [dec_eq] at hc; done))) | refine AW.ret ?_ | refine AW.exit ?_ | refine Then.ret ?_ | refine Then.exit ?_ | refine InB.ret ?_ | refine InB.here ?_ | refine InB.off rfl ?_ | refine Rnd.ret ?_ | refine Rnd.exit ?_ | refine AW.drawW mixed (by kernel_rfl) ?_))
  all_goals first
    | (exfalso; first | exact hw hc | exact hc hw | omega)
    | exact RQ.fin rfl rfl rfl
theorem cloneSh_c (f : List Node) (h : Int) (deep : Bool) (hf : Fit f) (hff : faultR f [h] = 0) (hk : (nodeAt f h).kind = 12) : PureC Tryz.prog 11 [fav f, iav h, bav deep] (noA 17) := by
  have hfa := fault_c f [h] hf (by simp)
  rw [hff] at hfa
  refine PureC.mk tabs Tryz.func11 40 [.cell 6 24, .tmp 7, .tmp 8, .tmp 9] rfl rfl rfl rfl rfl ?_; intro w0 X
  (repeat' (first | ((with_reducible show AL _ _ _ _ _); first | (refine AL.step tabs rfl ?_; try dsimp only [len, List.nil_append, List.cons_append]) | refine AL.op rfl (OpOK.callfz rfl rfl rfl rfl hfa rfl rfl) ?_ | refine AL.op rfl (OpOK.call rfl rfl rfl rfl (treeAt_c f h hf.len) rfl) ?_ | refine AL.nil ?_ | (refine AL.gsplitE rfl rfl rfl (fun hc => ?_) (fun hc => ?_) <;> (fail_if_success (exact absurd hc (by decide))) <;> (try simp only [hsx] at hc) <;> (try first | (exfalso; omega) | contradiction | (exfalso; simp [dec_eq] at hc; done))) | (refine AL.op rfl (OpOK.ari64 rfl rfl rfl rfl rfl (by omega) (by omega)) ?_) | (refine AL.op rfl (OpOK.index_map tabs rfl rfl rfl rfl rfl rfl rfl (fun _ => rfl) (by decide) (by omega) (by omega)) ?_) | (refine AL.op rfl (OpOK.eqs rfl rfl rfl rfl eqt45 rfl rfl) ?_) | (refine AL.op rfl (OpOK.eqs rfl rfl rfl rfl eqt68 rfl rfl) ?_) | (refine AL.op rfl (OpOK.eqs rfl rfl rfl rfl eqt146 rfl rfl) ?_) | (refine AL.op rfl (OpOK.eqs rfl rfl rfl rfl eqt151 rfl rfl) ?_)) | ((with_reducible show DQ _ _ _ _ _ _); first | refine DQ.stepc (LS.val tabs rfl rfl rfl) rfl rfl rfl rfl rfl ?_ | refine DQ.stepc (LS.skip rfl rfl) rfl rfl rfl rfl rfl ?_ | refine DQ.nilM (by kernel_rfl) ?_ | refine DQ.stepc (LS.ari64 rfl rfl rfl rfl rfl rfl (by omega) (by omega)) rfl rfl rfl rfl rfl ?_ | refine DQ.stepc (LS.index_map tabs rfl rfl rfl rfl rfl rfl rfl rfl (fun _ => rfl) (by decide) (by omega) (by omega)) rfl rfl rfl rfl rfl ?_ | (refine DQ.gsplitE rfl rfl rfl (fun hc => ?_) (fun hc => ?_) <;> (fail_if_success (exact absurd hc (by decide))) <;> (try simp only [hsx] at hc) <;> (try first | (exfalso; omega) | contradiction | (exfalso; simp [dec_eq] at hc; done))) | refine DQ.stepc (LS.eqs rfl rfl rfl rfl rfl eqt45 rfl rfl) rfl rfl rfl rfl rfl ?_ | refine DQ.stepc (LS.eqs rfl rfl rfl rfl rfl eqt68 rfl rfl) rfl rfl rfl rfl rfl ?_ | refine DQ.stepc (LS.eqs rfl rfl rfl rfl rfl eqt146 rfl rfl) rfl rfl rfl rfl rfl ?_ | refine DQ.stepc (LS.eqs rfl rfl rfl rfl rfl eqt151 rfl rfl) rfl rfl rfl rfl rfl ?_) | refine AW.seq ?_ | refine AW.region ?_ | refine Then.norm ?_ | refine AW.skip ?_ | refine AW.block ?_ | refine InB.norm ?_ | refine AW.condT rfl ?_ | refine AW.condF rfl ?_ | (refine AW.cond rfl (fun hc => ?_) (fun hc => ?_) <;> (try simp only [hsx] at hc) <;> (try first | (exfalso; omega) | contradiction | (exfalso; simp [dec_eq] at hc; done))) | refine AW.ret ?_ | refine AW.exit ?_ | refine Then.ret ?_ | refine Then.exit ?_ | refine InB.ret ?_ | refine InB.here ?_ | refine InB.off rfl ?_ | refine Rnd.ret ?_ | refine Rnd.exit ?_ | refine AW.drawW mixed (by kernel_rfl) ?_))
  all_goals first
    | exact RQ.fin rfl rfl rfl
    | (exfalso; first | exact hc hk | omega)
theorem importNo_c (f : List Node) (doc h w : Int) (deep : Bool) (hf : Fit f) (hff : faultR f [doc, h] = w) (hw : w ≠ 0) : PureC Tryz.prog 16 [fav f, iav doc, iav h, bav deep] (noA w) := by
  have hfa := fault_c f [doc, h] hf (by simp)
  rw [hff] at hfa
  refine PureC.mk tabs Tryz.func16 52 [.cell 8 24, .tmp 9, .tmp 10, .tmp 11] rfl rfl rfl rfl rfl ?_; intro w0 X
  (repeat' (first | ((with_reducible show AL _ _ _ _ _); first | (refine AL.step tabs rfl ?_; try dsimp only [len, List.nil_append, List.cons_append]) | refine AL.op rfl (OpOK.callfz rfl rfl rfl rfl hfa rfl rfl) ?_ | refine AL.op rfl (OpOK.call rfl rfl rfl rfl (treeAt_c f h hf.len) rfl) ?_ | refine AL.op rfl (OpOK.call rfl rfl rfl rfl (treeAt_c f doc hf.len) rfl) ?_ | refine AL.nil ?_ | (refine AL.gsplitE rfl rfl rfl (fun hc => ?_) (fun hc => ?_) <;> (fail_if_success (exact absurd hc (by decide))) <;> (try simp only [hsx] at hc) <;> (try first | (exfalso; omega) | contradiction | (exfalso; simp [dec_eq] at hc; done))) | (refine AL.op rfl (OpOK.ari64 rfl rfl rfl rfl rfl (by omega) (by omega)) ?_) | (refine AL.op rfl (OpOK.index_map tabs rfl rfl rfl rfl rfl rfl rfl (fun _ => rfl) (by decide) (by omega) (by omega)) ?_) | (refine AL.op rfl (OpOK.eqs rfl rfl rfl rfl eqt45 rfl rfl) ?_) | (refine AL.op rfl (OpOK.eqs rfl rfl rfl rfl eqt68 rfl rfl) ?_) | (refine AL.op rfl (OpOK.eqs rfl rfl rfl rfl eqt146 rfl rfl) ?_) | (refine AL.op rfl (OpOK.eqs rfl rfl rfl rfl eqt151 rfl rfl) ?_)) | refine AW.seq ?_ | refine AW.region ?_ | refine Then.norm ?_ | refine AW.skip ?_ | refine AW.block ?_ | refine InB.norm ?_ | refine AW.condT rfl ?_ | refine AW.condF rfl ?_ | (refine AW.cond rfl (fun hc => ?_) (fun hc => ?_) <;> (try simp only [hsx] at hc) <;> (try first | (exfalso; omega) | contradiction | (exfalso; simp [dec_eq] at hc; done))) | refine AW.ret ?_ | refine AW.exit ?_ | refine Then.ret ?_ | refine Then.exit ?_ | refine InB.ret ?_ | refine InB.here ?_ | refine InB.off rfl ?_ | refine Rnd.ret ?_ | refine Rnd.exit ?_))
  all_goals first
    | (exfalso; first | exact hw hc | exact hc hw | omega)
    | exact RQ.fin rfl rfl rfl
theorem importType_c (f : List Node) (doc h : Int) (deep : Bool) (hf : Fit f) (hff : faultR f [doc, h] = 0) (hk : (nodeAt f doc).kind ≠ 9) : PureC Tryz.prog 16 [fav f, iav doc, iav h, bav deep] (noA 23) := by
  have hfa := fault_c f [doc, h] hf (by simp)
  rw [hff] at hfa
  refine PureC.mk tabs Tryz.func16 52 [.cell 8 24, .tmp 9, .tmp 10, .tmp 11] rfl rfl rfl rfl rfl ?_; intro w0 X
  (repeat' (first | ((with_reducible show AL _ _ _ _ _); first | (refine AL.step tabs rfl ?_; try dsimp only [len, List.nil_append, List.cons_append]) | refine AL.op rfl (OpOK.callfz rfl rfl rfl rfl hfa rfl rfl) ?_ | refine AL.op rfl (OpOK.call rfl rfl rfl rfl (treeAt_c f h hf.len) rfl) ?_ | refine AL.op rfl (OpOK.call rfl rfl rfl rfl (treeAt_c f doc hf.len) rfl) ?_ | refine AL.nil ?_ | (refine AL.gsplitE rfl rfl rfl (fun hc => ?_) (fun hc => ?_) <;> (fail_if_success (exact absurd hc (by decide))) <;> (try simp only [hsx] at hc) <;> (try first | (exfalso; omega) | contradiction | (exfalso; simp [dec_eq] at hc; done))) | (refine AL.op rfl (OpOK.ari64 rfl rfl rfl rfl rfl (by omega) (by omega)) ?_) | (refine AL.op rfl (OpOK.index_map tabs rfl rfl rfl rfl rfl rfl rfl (fun _ => rfl) (by decide) (by omega) (by omega)) ?_) | (refine AL.op rfl (OpOK.eqs rfl rfl rfl rfl eqt45 rfl rfl) ?_) | (refine AL.op rfl (OpOK.eqs rfl rfl rfl rfl eqt68 rfl rfl) ?_) | (refine AL.op rfl (OpOK.eqs rfl rfl rfl rfl eqt146 rfl rfl) ?_) | (refine AL.op rfl (OpOK.eqs rfl rfl rfl rfl eqt151 rfl rfl) ?_)) | refine AW.seq ?_ | refine AW.region ?_ | refine Then.norm ?_ | refine AW.skip ?_ | refine AW.block ?_ | refine InB.norm ?_ | refine AW.condT rfl ?_ | refine AW.condF rfl ?_ | (refine AW.cond rfl (fun hc => ?_) (fun hc => ?_) <;> (try simp only [hsx] at hc) <;> (try first | (exfalso; omega) | contradiction | (exfalso; simp [dec_eq] at hc; done))) | refine AW.ret ?_ | refine AW.exit ?_ | refine Then.ret ?_ | refine Then.exit ?_ | refine InB.ret ?_ | refine InB.here ?_ | refine InB.off rfl ?_ | refine Rnd.ret ?_ | refine Rnd.exit ?_))
  all_goals first
    | exact RQ.fin rfl rfl rfl
    | (exfalso; omega)
theorem importUn_c (f : List Node) (doc h : Int) (deep : Bool) (hf : Fit f) (hff : faultR f [doc, h] = 0) (hk : (nodeAt f doc).kind = 9) (hh : (nodeAt f h).kind = 9 ∨ (nodeAt f h).kind = 12) : PureC Tryz.prog 16 [fav f, iav doc, iav h, bav deep] (noA 17) := by
  have hfa := fault_c f [doc, h] hf (by simp)
  rw [hff] at hfa
  refine PureC.mk tabs Tryz.func16 52 [.cell 8 24, .tmp 9, .tmp 10, .tmp 11] rfl rfl rfl rfl rfl ?_; intro w0 X
  (repeat' (first | ((with_reducible show AL _ _ _ _ _); first | (refine AL.step tabs rfl ?_; try dsimp only [len, List.nil_append, List.cons_append]) | refine AL.op rfl (OpOK.callfz rfl rfl rfl rfl hfa rfl rfl) ?_ | refine AL.op rfl (OpOK.call rfl rfl rfl rfl (treeAt_c f h hf.len) rfl) ?_ | refine AL.op rfl (OpOK.call rfl rfl rfl rfl (treeAt_c f doc hf.len) rfl) ?_ | refine AL.nil ?_ | (refine AL.gsplitE rfl rfl rfl (fun hc => ?_) (fun hc => ?_) <;> (fail_if_success (exact absurd hc (by decide))) <;> (try simp only [hsx] at hc) <;> (try first | (exfalso; omega) | contradiction | (exfalso; simp [dec_eq] at hc; done))) | (refine AL.op rfl (OpOK.ari64 rfl rfl rfl rfl rfl (by omega) (by omega)) ?_) | (refine AL.op rfl (OpOK.index_map tabs rfl rfl rfl rfl rfl rfl rfl (fun _ => rfl) (by decide) (by omega) (by omega)) ?_) | (refine AL.op rfl (OpOK.eqs rfl rfl rfl rfl eqt45 rfl rfl) ?_) | (refine AL.op rfl (OpOK.eqs rfl rfl rfl rfl eqt68 rfl rfl) ?_) | (refine AL.op rfl (OpOK.eqs rfl rfl rfl rfl eqt146 rfl rfl) ?_) | (refine AL.op rfl (OpOK.eqs rfl rfl rfl rfl eqt151 rfl rfl) ?_)) | refine AW.seq ?_ | refine AW.region ?_ | refine Then.norm ?_ | refine AW.skip ?_ | refine AW.block ?_ | refine InB.norm ?_ | refine AW.condT rfl ?_ | refine AW.condF rfl ?_ | (refine AW.cond rfl (fun hc => ?_) (fun hc => ?_) <;> (try simp only [hsx] at hc) <;> (try first | (exfalso; omega) | contradiction | (exfalso; simp [dec_eq] at hc; done))) | refine AW.ret ?_ | refine AW.exit ?_ | refine Then.ret ?_ | refine Then.exit ?_ | refine InB.ret ?_ | refine InB.here ?_ | refine InB.off rfl ?_ | refine Rnd.ret ?_ | refine Rnd.exit ?_))
  all_goals first
    | exact RQ.fin rfl rfl rfl
    | (exfalso; omega)
theorem importOk_c (f g : List Node) (doc h x w : Int) (deep : Bool) (L : List (List IV)) (hf : Fit f) (hff : faultR f [doc, h] = 0) (hk : (nodeAt f doc).kind = 9) (hh : (nodeAt f h).kind ≠ 9) (hh2 : (nodeAt f h).kind ≠ 12) (hd : PureC Tryz.prog 25 [fav f, iav h, iav doc, bav deep] (.tup [fav g, .imm (.sl L), iav x, iav w])) : PureC Tryz.prog 16 [fav f, iav doc, iav h, bav deep] (.tup [fav g, .imm (.sl L), iav x, iav w]) := by
  have hfa := fault_c f [doc, h] hf (by simp)
  rw [hff] at hfa
  refine PureC.mk tabs Tryz.func16 52 [.cell 8 24, .tmp 9, .tmp 10, .tmp 11] rfl rfl rfl rfl rfl ?_; intro w0 X
  (repeat' (first | ((with_reducible show AL _ _ _ _ _); first | (refine AL.step tabs rfl ?_; try dsimp only [len, List.nil_append, List.cons_append]) | refine AL.op rfl (OpOK.callfz rfl rfl rfl rfl hfa rfl rfl) ?_ | refine AL.op rfl (OpOK.call rfl rfl rfl rfl (treeAt_c f h hf.len) rfl) ?_ | refine AL.op rfl (OpOK.call rfl rfl rfl rfl (treeAt_c f doc hf.len) rfl) ?_ | refine AL.op rfl (OpOK.call rfl rfl rfl rfl hd rfl) ?_ | refine AL.nil ?_ | (refine AL.gsplitE rfl rfl rfl (fun hc => ?_) (fun hc => ?_) <;> (fail_if_success (exact absurd hc (by decide))) <;> (try simp only [hsx] at hc) <;> (try first | (exfalso; omega) | contradiction | (exfalso; simp [dec_eq] at hc; done))) | (refine AL.op rfl (OpOK.ari64 rfl rfl rfl rfl rfl (by omega) (by omega)) ?_) | (refine AL.op rfl (OpOK.index_map tabs rfl rfl rfl rfl rfl rfl rfl (fun _ => rfl) (by decide) (by omega) (by omega)) ?_) | (refine AL.op rfl (OpOK.eqs rfl rfl rfl rfl eqt45 rfl rfl) ?_) | (refine AL.op rfl (OpOK.eqs rfl rfl rfl rfl eqt68 rfl rfl) ?_) | (refine AL.op rfl (OpOK.eqs rfl rfl rfl rfl eqt146 rfl rfl) ?_) | (refine AL.op rfl (OpOK.eqs rfl rfl rfl rfl eqt151 rfl rfl) ?_)) | refine AW.seq ?_ | refine AW.region ?_ | refine Then.norm ?_ | refine AW.skip ?_ | refine AW.block ?_ | refine InB.norm ?_ | refine AW.condT rfl ?_ | refine AW.condF rfl ?_ | (refine AW.cond rfl (fun hc => ?_) (fun hc => ?_) <;> (try simp only [hsx] at hc) <;> (try first | (exfalso; omega) | contradiction | (exfalso; simp [dec_eq] at hc; done))) | refine AW.ret ?_ | refine AW.exit ?_ | refine Then.ret ?_ | refine Then.exit ?_ | refine InB.ret ?_ | refine InB.here ?_ | refine InB.off rfl ?_ | refine Rnd.ret ?_ | refine Rnd.exit ?_))
  all_goals first
    | (exfalso; omega)
    | exact RQ.fin rfl rfl rfl
structure Ans where
  g : List Node
  l : List Change
  n : Int
  why : Int
def Ans.av (a : Ans) : AV := .tup [fav a.g, .imm (.sl (a.l.map Change.iv)), iav a.n, iav a.why]
def ansNo (w : Int) : Ans := ⟨[], [], 0, w⟩
def ansOf (q : PS) (x : Int) : Ans := if q.why = 0 then ⟨q.F, q.L, x, 0⟩ else ansNo 3
inductive CloneA (f : List Node) (h : Int) (deep : Bool) : Ans → Prop
  | no (w : Int) (hw : w ≠ 0) (hff : faultR f [h] = w) : CloneA f h deep (ansNo w)
  | shadow (hff : faultR f [h] = 0) (hk : (nodeAt f h).kind = 12) : CloneA f h deep (ansNo 17)
  | go (hff : faultR f [h] = 0) (hk : (nodeAt f h).kind ≠ 12) (q : PS) (x : Int) (ho : OneP f deep ⟨f, [], 0⟩ h (nodeAt f h).doc 0 q x) (hi : Inv q) : CloneA f h deep (ansOf q x)
inductive ImportA (f : List Node) (doc h : Int) (deep : Bool) : Ans → Prop
  | no (w : Int) (hw : w ≠ 0) (hff : faultR f [doc, h] = w) : ImportA f doc h deep (ansNo w)
  | type (hff : faultR f [doc, h] = 0) (hk : (nodeAt f doc).kind ≠ 9) : ImportA f doc h deep (ansNo 23)
  | un (hff : faultR f [doc, h] = 0) (hk : (nodeAt f doc).kind = 9) (hh : (nodeAt f h).kind = 9 ∨ (nodeAt f h).kind = 12) : ImportA f doc h deep (ansNo 17)
  | go (hff : faultR f [doc, h] = 0) (hk : (nodeAt f doc).kind = 9) (hh : (nodeAt f h).kind ≠ 9) (hh2 : (nodeAt f h).kind ≠ 12) (q : PS) (x : Int) (ho : OneP f deep ⟨f, [], 0⟩ h doc 0 q x) (hi : Inv q) : ImportA f doc h deep (ansOf q x)
theorem fault_zero {f : List Node} {l : List Int} (h : faultR f l = 0) : rightP f ∧ (l.all fun h => inB f h) = true := by
  unfold faultR at h
  by_cases hr : rightP f
  · rw [if_pos (by rw [dec_true]; exact hr)] at h
    by_cases hl : (l.all fun h => inB f h) = true
    · exact ⟨hr, hl⟩
    · rw [if_neg hl] at h; cases h
  · rw [if_neg (by rw [dec_true]; exact hr)] at h; cases h
theorem doP_L {p q : PS} {c : Change} {b : Bool} (h : DoP p c q b) (hL : p.L ≠ []) : q.L ≠ [] := by
  rcases h.two with ⟨_, _, _, e⟩ | ⟨_, _, _, _, _, e⟩
  · rw [e]; exact hL
  · rw [e]; simp
theorem one_L {f : List Node} {deep : Bool} {p : PS} {h doc parent : Int} {q : PS} {x : Int} (H : OneP f deep p h doc parent q x) : p.L ≠ [] → q.L ≠ [] := by
  refine OneP.rec (motive_1 := fun p h doc parent q x _ => p.L ≠ [] → q.L ≠ []) (motive_2 := fun p l doc x q _ => p.L ≠ [] → q.L ≠ []) ?_ ?_ ?_ H
  · intro p p1 p2 q h doc doc' parent x b1 hd9 hd hmk hx hi0 hi1 hk0 hk1 ih hL
    have h1 := doP_L hmk hL
    have h2 : p2.L ≠ [] := by
      by_cases h0 : parent = 0
      · rw [hi0 h0]; exact h1
      · obtain ⟨b2, hb⟩ := hi1 h0
        exact doP_L hb h1
    cases hdp : deep with
    | false => rw [hk0 hdp]; exact h2
    | true => exact ih hdp h2
  · exact fun p doc x h => h
  · exact fun p p1 q k r doc x y h1 h2 ih1 ih2 hL => ih2 (ih1 hL)
theorem kids_L {f : List Node} {deep : Bool} {l : List Int} {p q : PS} {doc x : Int} (H : KidsP f deep p l doc x q) : p.L ≠ [] → q.L ≠ [] := by
  induction l generalizing p with
  | nil => cases H; exact fun h => h
  | cons k r ih =>
    intro hw
    cases H
    rename_i p1 y h1 h2
    exact ih h2 (one_L h1 hw)
theorem OneP.parts {f : List Node} {deep : Bool} {p : PS} {h doc parent : Int} {q : PS} {x : Int} (H : OneP f deep p h doc parent q x) : ∃ (p1 p2 : PS) (doc' : Int) (b1 : Bool), ((nodeAt f h).kind = 9 → doc' = p.F.length + 1) ∧ ((nodeAt f h).kind ≠ 9 → doc' = doc) ∧ DoP p (mkCh (p.F.length + 1) (copiedOf (nodeAt f h) doc')) p1 b1 ∧ x = mkX p b1 ∧ (parent = 0 → p2 = p1) ∧ (parent ≠ 0 → ∃ b2, DoP p1 (inCh x parent (nodeAt p1.F parent).kids.length) p2 b2) ∧ (deep = false → q = p2) ∧ (deep = true → KidsP f deep p2 (nodeAt f h).kids doc' x q) :=
  match H with
  | .mk _ p1 p2 _ _ _ doc' _ _ b1 hd9 hd hmk hx hi0 hi1 hk0 hk1 => ⟨p1, p2, doc', b1, hd9, hd, hmk, hx, hi0, hi1, hk0, hk1⟩
/-- What is answered is never without a change. -/
theorem top_L {f : List Node} {deep : Bool} {p : PS} {h doc : Int} {q : PS} {x : Int} (H : OneP f deep p h doc 0 q x) (hq : q.why = 0) : q.L ≠ [] ∧ p.why = 0 := by
  have hp : p.why = 0 := by
    by_cases h0 : p.why = 0
    · exact h0
    · have := H.stuck h0
      rw [this] at hq
      exact absurd hq h0
  refine ⟨?_, hp⟩
  obtain ⟨p1, p2, doc', b1, hd9, hd, hmk, hx, hi0, hi1, hk0, hk1⟩ := H.parts
  have e := hi0 rfl
  subst e
  rcases hmk.two with ⟨_, a2, _, _⟩ | ⟨_, _, _, _, _, a4⟩
  · exfalso
    have hq2 : q = p2 := by
      cases hdp : deep with
      | false => exact hk0 hdp
      | true => exact (hk1 hdp).stuck a2
    rw [hq2] at hq
    exact a2 hq
  · have h1 : p2.L ≠ [] := by rw [a4]; simp
    cases hdp : deep with
    | false => rw [hk0 hdp]; exact h1
    | true => exact kids_L (hk1 hdp) h1
theorem done_all (f : List Node) (h doc : Int) (deep : Bool) (hf : Fit f) (hr : rightP f) (h0 : 0 < f.length) (hk : (nodeAt f h).kind ≠ 12) : ∃ q x, OneP f deep ⟨f, [], 0⟩ h doc 0 q x ∧ Inv q ∧ PureC Tryz.prog 25 [fav f, iav h, iav doc, bav deep] (ansOf q x).av := by
  obtain ⟨q, x, ho⟩ := OneP.ex hr deep h ⟨f, [], 0⟩ doc 0
  obtain ⟨h1, h2, h3⟩ := ho.toR hf hr deep hk ⟨hf, hr, h0, fun c hc => by cases hc⟩ (by simp)
  refine ⟨q, x, ho, h2, ?_⟩
  have hb := h3.2
  have hb2 := h2.right.1
  simp at hb
  have := cloneDone_c f h doc deep q x hf.len h1 (by omega) (fun hq => (top_L ho hq).1) (fun i h0 h1 => h2.chs _ (atI_mem h0 h1))
  unfold doneA at this
  unfold ansOf
  by_cases hw : q.why = 0
  · rw [if_pos hw] at this ⊢; exact this
  · rw [if_neg hw] at this ⊢; exact this
theorem in_pos {f : List Node} {a : Int} (h : inB f a = true) : inR f a ∧ 0 < f.length := by
  simp only [inB, decide_eq_true_eq] at h
  exact ⟨h, by omega⟩
theorem clone_all (f : List Node) (h : Int) (deep : Bool) (hf : Fit f) : ∃ a : Ans, CloneA f h deep a ∧ PureC Tryz.prog 11 [fav f, iav h, bav deep] a.av := by
  by_cases hff : faultR f [h] = 0
  · by_cases hk : (nodeAt f h).kind = 12
    · exact ⟨_, .shadow hff hk, cloneSh_c f h deep hf hff hk⟩
    · obtain ⟨hr, hl⟩ := fault_zero hff
      simp only [List.all_cons, List.all_nil, Bool.and_true] at hl
      obtain ⟨q, x, h1, h2, h3⟩ := done_all f h (nodeAt f h).doc deep hf hr (in_pos hl).2 hk
      exact ⟨_, .go hff hk q x h1 h2, cloneOk_c f _ h _ _ deep _ hf hff hk h3⟩
  · exact ⟨_, .no _ hff rfl, cloneNo_c f h _ deep hf rfl hff⟩
theorem import_all (f : List Node) (doc h : Int) (deep : Bool) (hf : Fit f) : ∃ a : Ans, ImportA f doc h deep a ∧ PureC Tryz.prog 16 [fav f, iav doc, iav h, bav deep] a.av := by
  by_cases hff : faultR f [doc, h] = 0
  · by_cases hk : (nodeAt f doc).kind = 9
    · by_cases hh : (nodeAt f h).kind = 9 ∨ (nodeAt f h).kind = 12
      · exact ⟨_, .un hff hk hh, importUn_c f doc h deep hf hff hk hh⟩
      · obtain ⟨hr, hl⟩ := fault_zero hff
        simp only [List.all_cons, List.all_nil, Bool.and_true, Bool.and_eq_true] at hl
        obtain ⟨q, x, h1, h2, h3⟩ := done_all f h doc deep hf hr (in_pos hl.1).2 (fun e => hh (.inr e))
        exact ⟨_, .go hff hk (fun e => hh (.inl e)) (fun e => hh (.inr e)) q x h1 h2, importOk_c f _ doc h _ _ deep _ hf hff hk (fun e => hh (.inl e)) (fun e => hh (.inr e)) h3⟩
    · exact ⟨_, .type hff hk, importType_c f doc h deep hf hff hk⟩
  · exact ⟨_, .no _ hff rfl, importNo_c f doc h _ deep hf rfl hff⟩
end Go.Proofs.YteijifoobaoclaaGreat.A
namespace Go.Proofs.YteijifoobaoclaaGreat.A
set_option linter.unusedVariables false
set_option linter.unusedSimpArgs false
set_option maxRecDepth 100000
set_option maxHeartbeats 4000000
theorem rUnits_c (a b : List Int) (hl : a.length ≤ 1000000000) : PureC Tryz.prog 34 [.imm (.sl (a.map u16)), .imm (.sl (b.map u16))] (bav (dec (a = b))) := by
  refine PureC.mk tabs Tryz.func34 26 [.tmp 4] rfl rfl rfl rfl rfl ?_; intro w0 X
  (repeat' (first | ((with_reducible show AL _ _ _ _ _); first | (refine AL.step tabs rfl ?_; try dsimp only [len, List.nil_append, List.cons_append]) | refine AL.nil ?_ | (refine AL.gsplitE rfl rfl rfl (fun hc => ?_) (fun hc => ?_) <;> (fail_if_success (exact absurd hc (by decide))) <;> (try simp only [hsx] at hc) <;> (try first | (exfalso; omega) | contradiction | (exfalso; simp [dec_eq] at hc; done))) | (refine AL.op rfl (OpOK.ari64 rfl rfl rfl rfl rfl (by omega) (by omega)) ?_) | (refine AL.op rfl (OpOK.index_map tabs rfl rfl rfl rfl rfl rfl rfl (fun _ => rfl) (by decide) (by omega) (by omega)) ?_) | (refine AL.op rfl (OpOK.eqs rfl rfl rfl rfl eqt45 rfl rfl) ?_) | (refine AL.op rfl (OpOK.eqs rfl rfl rfl rfl eqt68 rfl rfl) ?_) | (refine AL.op rfl (OpOK.eqs rfl rfl rfl rfl eqt146 rfl rfl) ?_) | (refine AL.op rfl (OpOK.eqs rfl rfl rfl rfl eqt151 rfl rfl) ?_)) | ((with_reducible show DQ _ _ _ _ _ _); first | refine DQ.stepc (LS.val tabs rfl rfl rfl) rfl rfl rfl rfl rfl ?_ | refine DQ.stepc (LS.skip rfl rfl) rfl rfl rfl rfl rfl ?_ | refine DQ.nilM (by kernel_rfl) ?_ | refine DQ.stepc (LS.ari64 rfl rfl rfl rfl rfl rfl (by omega) (by omega)) rfl rfl rfl rfl rfl ?_ | refine DQ.stepc (LS.index_map tabs rfl rfl rfl rfl rfl rfl rfl rfl (fun _ => rfl) (by decide) (by omega) (by omega)) rfl rfl rfl rfl rfl ?_ | (refine DQ.gsplitE rfl rfl rfl (fun hc => ?_) (fun hc => ?_) <;> (fail_if_success (exact absurd hc (by decide))) <;> (try simp only [hsx] at hc) <;> (try first | (exfalso; omega) | contradiction | (exfalso; simp [dec_eq] at hc; done))) | refine DQ.stepc (LS.eqs rfl rfl rfl rfl rfl eqt45 rfl rfl) rfl rfl rfl rfl rfl ?_ | refine DQ.stepc (LS.eqs rfl rfl rfl rfl rfl eqt68 rfl rfl) rfl rfl rfl rfl rfl ?_ | refine DQ.stepc (LS.eqs rfl rfl rfl rfl rfl eqt146 rfl rfl) rfl rfl rfl rfl rfl ?_ | refine DQ.stepc (LS.eqs rfl rfl rfl rfl rfl eqt151 rfl rfl) rfl rfl rfl rfl rfl ?_) | fail | refine AW.seq ?_ | refine AW.region ?_ | refine Then.norm ?_ | refine AW.skip ?_ | refine AW.block ?_ | refine InB.norm ?_ | refine AW.condT rfl ?_ | refine AW.condF rfl ?_ | (refine AW.cond rfl (fun hc => ?_) (fun hc => ?_) <;> (try simp only [hsx] at hc) <;> (try first | (exfalso; omega) | contradiction | (exfalso; simp [dec_eq] at hc; done))) | refine AW.ret ?_ | refine AW.exit ?_ | refine Then.ret ?_ | refine Then.exit ?_ | refine InB.ret ?_ | refine InB.here ?_ | refine InB.off rfl ?_ | refine Rnd.ret ?_ | refine Rnd.exit ?_ | refine AW.drawW mixed (by kernel_rfl) ?_))
  · rw [dec_neg (p := a = b) (fun e => by subst e; exact hc rfl)]
    exact RQ.fin rfl rfl rfl
  have hlen : a.length = b.length := by omega
  clear hc
  refine AW.loop (α := Int) (fun i => ⟨[(0, .imm (.sl (a.map u16))), (1, .imm (.sl (b.map u16))), (12, iav (a.map u16).length), (13, iav i)], []⟩) (fun i => 0 ≤ i ∧ i ≤ a.length ∧ a.take i.toNat = b.take i.toNat) (fun i => (a.length - i).toNat) 0 (Le.cut 0 rfl (by repeat' (first | exact trivial | refine ⟨rfl, ?_⟩)) rfl rfl (Nat.zero_le _)) ⟨by omega, by omega, rfl⟩ ?_
  intro i ⟨h0, h1, h2⟩
  (repeat' (first | ((with_reducible show AL _ _ _ _ _); first | (refine AL.step tabs rfl ?_; try dsimp only [len, List.nil_append, List.cons_append]) | refine AL.nil ?_ | (refine AL.gsplitE rfl rfl rfl (fun hc => ?_) (fun hc => ?_) <;> (fail_if_success (exact absurd hc (by decide))) <;> (try simp only [hsx] at hc) <;> (try first | (exfalso; omega) | contradiction | (exfalso; simp [dec_eq] at hc; done))) | (refine AL.op rfl (OpOK.ari64 rfl rfl rfl rfl rfl (by omega) (by omega)) ?_) | (refine AL.op rfl (OpOK.index_map tabs rfl rfl rfl rfl rfl rfl rfl (fun _ => rfl) (by decide) (by omega) (by omega)) ?_) | (refine AL.op rfl (OpOK.eqs rfl rfl rfl rfl eqt45 rfl rfl) ?_) | (refine AL.op rfl (OpOK.eqs rfl rfl rfl rfl eqt68 rfl rfl) ?_) | (refine AL.op rfl (OpOK.eqs rfl rfl rfl rfl eqt146 rfl rfl) ?_) | (refine AL.op rfl (OpOK.eqs rfl rfl rfl rfl eqt151 rfl rfl) ?_)) | ((with_reducible show DQ _ _ _ _ _ _); first | refine DQ.stepc (LS.val tabs rfl rfl rfl) rfl rfl rfl rfl rfl ?_ | refine DQ.stepc (LS.skip rfl rfl) rfl rfl rfl rfl rfl ?_ | refine DQ.nilM (by kernel_rfl) ?_ | refine DQ.stepc (LS.ari64 rfl rfl rfl rfl rfl rfl (by omega) (by omega)) rfl rfl rfl rfl rfl ?_ | refine DQ.stepc (LS.index_map tabs rfl rfl rfl rfl rfl rfl rfl rfl (fun _ => rfl) (by decide) (by omega) (by omega)) rfl rfl rfl rfl rfl ?_ | (refine DQ.gsplitE rfl rfl rfl (fun hc => ?_) (fun hc => ?_) <;> (fail_if_success (exact absurd hc (by decide))) <;> (try simp only [hsx] at hc) <;> (try first | (exfalso; omega) | contradiction | (exfalso; simp [dec_eq] at hc; done))) | refine DQ.stepc (LS.eqs rfl rfl rfl rfl rfl eqt45 rfl rfl) rfl rfl rfl rfl rfl ?_ | refine DQ.stepc (LS.eqs rfl rfl rfl rfl rfl eqt68 rfl rfl) rfl rfl rfl rfl rfl ?_ | refine DQ.stepc (LS.eqs rfl rfl rfl rfl rfl eqt146 rfl rfl) rfl rfl rfl rfl rfl ?_ | refine DQ.stepc (LS.eqs rfl rfl rfl rfl rfl eqt151 rfl rfl) rfl rfl rfl rfl rfl ?_) | refine AW.seq ?_ | refine AW.region ?_ | refine Then.norm ?_ | refine AW.skip ?_ | refine AW.block ?_ | refine InB.norm ?_ | refine AW.condT rfl ?_ | refine AW.condF rfl ?_ | (refine AW.cond rfl (fun hc => ?_) (fun hc => ?_) <;> (try simp only [hsx] at hc) <;> (try first | (exfalso; omega) | contradiction | (exfalso; simp [dec_eq] at hc; done))) | refine AW.ret ?_ | refine AW.exit ?_ | refine Then.ret ?_ | refine Then.exit ?_ | refine InB.ret ?_ | refine InB.here ?_ | refine InB.off rfl ?_ | refine Rnd.ret ?_ | refine Rnd.exit ?_ | refine AW.drawW mixed (by kernel_rfl) ?_))
  · rw [dec_neg (p := a = b) (list_ne hc)]
    exact RQ.fin rfl rfl rfl
  · refine Rnd.norm (i + 1) (Le.cut 0 rfl (by repeat' (first | exact trivial | refine ⟨rfl, ?_⟩)) rfl rfl (Nat.zero_le _)) ⟨by omega, by omega, ?_⟩ (by omega)
    rw [take_next h0 (by assumption), take_next h0 (by omega), h2, hc]
  · rw [take_end hc, take_end (by omega)] at h2
    rw [dec_pos (p := a = b) h2]; exact RQ.fin rfl rfl rfl
theorem rInts_c (a b : List Int) (hl : a.length ≤ 1000000000) : PureC Tryz.prog 35 [.imm (.sl (a.map i64)), .imm (.sl (b.map i64))] (bav (dec (a = b))) := by
  refine PureC.mk tabs Tryz.func35 26 [.tmp 4] rfl rfl rfl rfl rfl ?_; intro w0 X
  (repeat' (first | ((with_reducible show AL _ _ _ _ _); first | (refine AL.step tabs rfl ?_; try dsimp only [len, List.nil_append, List.cons_append]) | refine AL.nil ?_ | (refine AL.gsplitE rfl rfl rfl (fun hc => ?_) (fun hc => ?_) <;> (fail_if_success (exact absurd hc (by decide))) <;> (try simp only [hsx] at hc) <;> (try first | (exfalso; omega) | contradiction | (exfalso; simp [dec_eq] at hc; done))) | (refine AL.op rfl (OpOK.ari64 rfl rfl rfl rfl rfl (by omega) (by omega)) ?_) | (refine AL.op rfl (OpOK.index_map tabs rfl rfl rfl rfl rfl rfl rfl (fun _ => rfl) (by decide) (by omega) (by omega)) ?_) | (refine AL.op rfl (OpOK.eqs rfl rfl rfl rfl eqt45 rfl rfl) ?_) | (refine AL.op rfl (OpOK.eqs rfl rfl rfl rfl eqt68 rfl rfl) ?_) | (refine AL.op rfl (OpOK.eqs rfl rfl rfl rfl eqt146 rfl rfl) ?_) | (refine AL.op rfl (OpOK.eqs rfl rfl rfl rfl eqt151 rfl rfl) ?_)) | ((with_reducible show DQ _ _ _ _ _ _); first | refine DQ.stepc (LS.val tabs rfl rfl rfl) rfl rfl rfl rfl rfl ?_ | refine DQ.stepc (LS.skip rfl rfl) rfl rfl rfl rfl rfl ?_ | refine DQ.nilM (by kernel_rfl) ?_ | refine DQ.stepc (LS.ari64 rfl rfl rfl rfl rfl rfl (by omega) (by omega)) rfl rfl rfl rfl rfl ?_ | refine DQ.stepc (LS.index_map tabs rfl rfl rfl rfl rfl rfl rfl rfl (fun _ => rfl) (by decide) (by omega) (by omega)) rfl rfl rfl rfl rfl ?_ | (refine DQ.gsplitE rfl rfl rfl (fun hc => ?_) (fun hc => ?_) <;> (fail_if_success (exact absurd hc (by decide))) <;> (try simp only [hsx] at hc) <;> (try first | (exfalso; omega) | contradiction | (exfalso; simp [dec_eq] at hc; done))) | refine DQ.stepc (LS.eqs rfl rfl rfl rfl rfl eqt45 rfl rfl) rfl rfl rfl rfl rfl ?_ | refine DQ.stepc (LS.eqs rfl rfl rfl rfl rfl eqt68 rfl rfl) rfl rfl rfl rfl rfl ?_ | refine DQ.stepc (LS.eqs rfl rfl rfl rfl rfl eqt146 rfl rfl) rfl rfl rfl rfl rfl ?_ | refine DQ.stepc (LS.eqs rfl rfl rfl rfl rfl eqt151 rfl rfl) rfl rfl rfl rfl rfl ?_) | fail | refine AW.seq ?_ | refine AW.region ?_ | refine Then.norm ?_ | refine AW.skip ?_ | refine AW.block ?_ | refine InB.norm ?_ | refine AW.condT rfl ?_ | refine AW.condF rfl ?_ | (refine AW.cond rfl (fun hc => ?_) (fun hc => ?_) <;> (try simp only [hsx] at hc) <;> (try first | (exfalso; omega) | contradiction | (exfalso; simp [dec_eq] at hc; done))) | refine AW.ret ?_ | refine AW.exit ?_ | refine Then.ret ?_ | refine Then.exit ?_ | refine InB.ret ?_ | refine InB.here ?_ | refine InB.off rfl ?_ | refine Rnd.ret ?_ | refine Rnd.exit ?_ | refine AW.drawW mixed (by kernel_rfl) ?_))
  · rw [dec_neg (p := a = b) (fun e => by subst e; exact hc rfl)]
    exact RQ.fin rfl rfl rfl
  have hlen : a.length = b.length := by omega
  clear hc
  refine AW.loop (α := Int) (fun i => ⟨[(0, .imm (.sl (a.map i64))), (1, .imm (.sl (b.map i64))), (12, iav (a.map i64).length), (13, iav i)], []⟩) (fun i => 0 ≤ i ∧ i ≤ a.length ∧ a.take i.toNat = b.take i.toNat) (fun i => (a.length - i).toNat) 0 (Le.cut 0 rfl (by repeat' (first | exact trivial | refine ⟨rfl, ?_⟩)) rfl rfl (Nat.zero_le _)) ⟨by omega, by omega, rfl⟩ ?_
  intro i ⟨h0, h1, h2⟩
  (repeat' (first | ((with_reducible show AL _ _ _ _ _); first | (refine AL.step tabs rfl ?_; try dsimp only [len, List.nil_append, List.cons_append]) | refine AL.nil ?_ | (refine AL.gsplitE rfl rfl rfl (fun hc => ?_) (fun hc => ?_) <;> (fail_if_success (exact absurd hc (by decide))) <;> (try simp only [hsx] at hc) <;> (try first | (exfalso; omega) | contradiction | (exfalso; simp [dec_eq] at hc; done))) | (refine AL.op rfl (OpOK.ari64 rfl rfl rfl rfl rfl (by omega) (by omega)) ?_) | (refine AL.op rfl (OpOK.index_map tabs rfl rfl rfl rfl rfl rfl rfl (fun _ => rfl) (by decide) (by omega) (by omega)) ?_) | (refine AL.op rfl (OpOK.eqs rfl rfl rfl rfl eqt45 rfl rfl) ?_) | (refine AL.op rfl (OpOK.eqs rfl rfl rfl rfl eqt68 rfl rfl) ?_) | (refine AL.op rfl (OpOK.eqs rfl rfl rfl rfl eqt146 rfl rfl) ?_) | (refine AL.op rfl (OpOK.eqs rfl rfl rfl rfl eqt151 rfl rfl) ?_)) | ((with_reducible show DQ _ _ _ _ _ _); first | refine DQ.stepc (LS.val tabs rfl rfl rfl) rfl rfl rfl rfl rfl ?_ | refine DQ.stepc (LS.skip rfl rfl) rfl rfl rfl rfl rfl ?_ | refine DQ.nilM (by kernel_rfl) ?_ | refine DQ.stepc (LS.ari64 rfl rfl rfl rfl rfl rfl (by omega) (by omega)) rfl rfl rfl rfl rfl ?_ | refine DQ.stepc (LS.index_map tabs rfl rfl rfl rfl rfl rfl rfl rfl (fun _ => rfl) (by decide) (by omega) (by omega)) rfl rfl rfl rfl rfl ?_ | (refine DQ.gsplitE rfl rfl rfl (fun hc => ?_) (fun hc => ?_) <;> (fail_if_success (exact absurd hc (by decide))) <;> (try simp only [hsx] at hc) <;> (try first | (exfalso; omega) | contradiction | (exfalso; simp [dec_eq] at hc; done))) | refine DQ.stepc (LS.eqs rfl rfl rfl rfl rfl eqt45 rfl rfl) rfl rfl rfl rfl rfl ?_ | refine DQ.stepc (LS.eqs rfl rfl rfl rfl rfl eqt68 rfl rfl) rfl rfl rfl rfl rfl ?_ | refine DQ.stepc (LS.eqs rfl rfl rfl rfl rfl eqt146 rfl rfl) rfl rfl rfl rfl rfl ?_ | refine DQ.stepc (LS.eqs rfl rfl rfl rfl rfl eqt151 rfl rfl) rfl rfl rfl rfl rfl ?_) | refine AW.seq ?_ | refine AW.region ?_ | refine Then.norm ?_ | refine AW.skip ?_ | refine AW.block ?_ | refine InB.norm ?_ | refine AW.condT rfl ?_ | refine AW.condF rfl ?_ | (refine AW.cond rfl (fun hc => ?_) (fun hc => ?_) <;> (try simp only [hsx] at hc) <;> (try first | (exfalso; omega) | contradiction | (exfalso; simp [dec_eq] at hc; done))) | refine AW.ret ?_ | refine AW.exit ?_ | refine Then.ret ?_ | refine Then.exit ?_ | refine InB.ret ?_ | refine InB.here ?_ | refine InB.off rfl ?_ | refine Rnd.ret ?_ | refine Rnd.exit ?_ | refine AW.drawW mixed (by kernel_rfl) ?_))
  · rw [dec_neg (p := a = b) (list_ne hc)]
    exact RQ.fin rfl rfl rfl
  · refine Rnd.norm (i + 1) (Le.cut 0 rfl (by repeat' (first | exact trivial | refine ⟨rfl, ?_⟩)) rfl rfl (Nat.zero_le _)) ⟨by omega, by omega, ?_⟩ (by omega)
    rw [take_next h0 (by assumption), take_next h0 (by omega), h2, hc]
  · rw [take_end hc, take_end (by omega)] at h2
    rw [dec_pos (p := a = b) h2]; exact RQ.fin rfl rfl rfl
theorem rSameNode_c (a b : Node) (ha : FitN a) : PureC Tryz.prog 20 [a.av, b.av] (bav (dec (a = b))) := by
  have hla := ha.attrs
  refine PureC.mk tabs Tryz.func20 120 [.tmp 4] rfl rfl rfl rfl rfl ?_; intro w0 X
  (repeat' (first | ((with_reducible show AL _ _ _ _ _); first | (refine AL.step tabs rfl ?_; try dsimp only [len, List.nil_append, List.cons_append]) | refine AL.op rfl (OpOK.call rfl rfl rfl rfl (rUnits_c a.data b.data ha.data) rfl) ?_ | refine AL.op rfl (OpOK.call rfl rfl rfl rfl (rInts_c a.kids b.kids ha.kids) rfl) ?_ | refine AL.nil ?_ | (refine AL.gsplitE rfl rfl rfl (fun hc => ?_) (fun hc => ?_) <;> (fail_if_success (exact absurd hc (by decide))) <;> (try simp only [hsx] at hc) <;> (try first | (exfalso; omega) | contradiction | (exfalso; simp [dec_eq] at hc; done))) | (refine AL.op rfl (OpOK.ari64 rfl rfl rfl rfl rfl (by omega) (by omega)) ?_) | (refine AL.op rfl (OpOK.index_map tabs rfl rfl rfl rfl rfl rfl rfl (fun _ => rfl) (by decide) (by omega) (by omega)) ?_) | (refine AL.op rfl (OpOK.eqs rfl rfl rfl rfl eqt45 rfl rfl) ?_) | (refine AL.op rfl (OpOK.eqs rfl rfl rfl rfl eqt68 rfl rfl) ?_) | (refine AL.op rfl (OpOK.eqs rfl rfl rfl rfl eqt146 rfl rfl) ?_) | (refine AL.op rfl (OpOK.eqs rfl rfl rfl rfl eqt151 rfl rfl) ?_)) | ((with_reducible show DQ _ _ _ _ _ _); first | refine DQ.stepc (LS.val tabs rfl rfl rfl) rfl rfl rfl rfl rfl ?_ | refine DQ.stepc (LS.skip rfl rfl) rfl rfl rfl rfl rfl ?_ | refine DQ.nilM (by kernel_rfl) ?_ | refine DQ.stepc (LS.ari64 rfl rfl rfl rfl rfl rfl (by omega) (by omega)) rfl rfl rfl rfl rfl ?_ | refine DQ.stepc (LS.index_map tabs rfl rfl rfl rfl rfl rfl rfl rfl (fun _ => rfl) (by decide) (by omega) (by omega)) rfl rfl rfl rfl rfl ?_ | (refine DQ.gsplitE rfl rfl rfl (fun hc => ?_) (fun hc => ?_) <;> (fail_if_success (exact absurd hc (by decide))) <;> (try simp only [hsx] at hc) <;> (try first | (exfalso; omega) | contradiction | (exfalso; simp [dec_eq] at hc; done))) | refine DQ.stepc (LS.eqs rfl rfl rfl rfl rfl eqt45 rfl rfl) rfl rfl rfl rfl rfl ?_ | refine DQ.stepc (LS.eqs rfl rfl rfl rfl rfl eqt68 rfl rfl) rfl rfl rfl rfl rfl ?_ | refine DQ.stepc (LS.eqs rfl rfl rfl rfl rfl eqt146 rfl rfl) rfl rfl rfl rfl rfl ?_ | refine DQ.stepc (LS.eqs rfl rfl rfl rfl rfl eqt151 rfl rfl) rfl rfl rfl rfl rfl ?_) | refine AW.seq ?_ | refine AW.region ?_ | refine Then.norm ?_ | refine AW.skip ?_ | refine AW.block ?_ | refine InB.norm ?_ | refine AW.condT rfl ?_ | refine AW.condF rfl ?_ | (refine AW.cond rfl (fun hc => ?_) (fun hc => ?_) <;> (try simp only [hsx] at hc) <;> (try first | (exfalso; omega) | contradiction | (exfalso; simp [dec_eq] at hc; done))) | refine AW.ret ?_ | refine AW.exit ?_ | refine Then.ret ?_ | refine Then.exit ?_ | refine InB.ret ?_ | refine InB.here ?_ | refine InB.off rfl ?_ | refine Rnd.ret ?_ | refine Rnd.exit ?_ | refine AW.drawW mixed (by kernel_rfl) ?_))
  all_goals try (refine RQ.fin rfl rfl (congrArg bav ?_); rw [Bool.eq_iff_iff]; simp only [Bool.and_eq_true, dec_true, node_eq, name_eq, beq_iff_eq]; grind)
  have hlen : a.attrs.length = b.attrs.length := by grind
  refine AW.loop (α := Int) (fun i => ⟨[(2, .ptr 0 1 0 0), (3, .ptr 1 1 0 0), (31, iav (a.attrs.map Attr.iv).length), (32, iav i)], [⟨52, 16, [a.iv.map .imm]⟩, ⟨52, 16, [b.iv.map .imm]⟩]⟩) (fun i => 0 ≤ i ∧ i ≤ a.attrs.length ∧ a.attrs.take i.toNat = b.attrs.take i.toNat) (fun i => (a.attrs.length - i).toNat) 0 (Le.cut 2 rfl (by repeat' (first | exact trivial | refine ⟨rfl, ?_⟩)) rfl rfl (Nat.zero_le _)) ⟨by omega, by omega, rfl⟩ ?_
  intro i ⟨h0, h1, h2⟩
  (repeat' (first | ((with_reducible show AL _ _ _ _ _); first | (refine AL.step tabs rfl ?_; try dsimp only [len, List.nil_append, List.cons_append]) | refine AL.nil ?_ | (refine AL.gsplitE rfl rfl rfl (fun hc => ?_) (fun hc => ?_) <;> (fail_if_success (exact absurd hc (by decide))) <;> (try simp only [hsx] at hc) <;> (try first | (exfalso; omega) | contradiction | (exfalso; simp [dec_eq] at hc; done))) | (refine AL.op rfl (OpOK.ari64 rfl rfl rfl rfl rfl (by omega) (by omega)) ?_) | (refine AL.op rfl (OpOK.index_map tabs rfl rfl rfl rfl rfl rfl rfl (fun _ => rfl) (by decide) (by omega) (by omega)) ?_) | (refine AL.op rfl (OpOK.eqs rfl rfl rfl rfl eqt45 rfl rfl) ?_) | (refine AL.op rfl (OpOK.eqs rfl rfl rfl rfl eqt68 rfl rfl) ?_) | (refine AL.op rfl (OpOK.eqs rfl rfl rfl rfl eqt146 rfl rfl) ?_) | (refine AL.op rfl (OpOK.eqs rfl rfl rfl rfl eqt151 rfl rfl) ?_)) | ((with_reducible show DQ _ _ _ _ _ _); first | refine DQ.stepc (LS.val tabs rfl rfl rfl) rfl rfl rfl rfl rfl ?_ | refine DQ.stepc (LS.skip rfl rfl) rfl rfl rfl rfl rfl ?_ | refine DQ.nilM (by kernel_rfl) ?_ | refine DQ.stepc (LS.ari64 rfl rfl rfl rfl rfl rfl (by omega) (by omega)) rfl rfl rfl rfl rfl ?_ | refine DQ.stepc (LS.index_map tabs rfl rfl rfl rfl rfl rfl rfl rfl (fun _ => rfl) (by decide) (by omega) (by omega)) rfl rfl rfl rfl rfl ?_ | (refine DQ.gsplitE rfl rfl rfl (fun hc => ?_) (fun hc => ?_) <;> (fail_if_success (exact absurd hc (by decide))) <;> (try simp only [hsx] at hc) <;> (try first | (exfalso; omega) | contradiction | (exfalso; simp [dec_eq] at hc; done))) | refine DQ.stepc (LS.eqs rfl rfl rfl rfl rfl eqt45 rfl rfl) rfl rfl rfl rfl rfl ?_ | refine DQ.stepc (LS.eqs rfl rfl rfl rfl rfl eqt68 rfl rfl) rfl rfl rfl rfl rfl ?_ | refine DQ.stepc (LS.eqs rfl rfl rfl rfl rfl eqt146 rfl rfl) rfl rfl rfl rfl rfl ?_ | refine DQ.stepc (LS.eqs rfl rfl rfl rfl rfl eqt151 rfl rfl) rfl rfl rfl rfl rfl ?_) | refine AW.seq ?_ | refine AW.region ?_ | refine Then.norm ?_ | refine AW.skip ?_ | refine AW.block ?_ | refine InB.norm ?_ | refine AW.condT rfl ?_ | refine AW.condF rfl ?_ | (refine AW.cond rfl (fun hc => ?_) (fun hc => ?_) <;> (try simp only [hsx] at hc) <;> (try first | (exfalso; omega) | contradiction | (exfalso; simp [dec_eq] at hc; done))) | refine AW.ret ?_ | refine AW.exit ?_ | refine Then.ret ?_ | refine Then.exit ?_ | refine InB.ret ?_ | refine InB.here ?_ | refine InB.off rfl ?_ | refine Rnd.ret ?_ | refine Rnd.exit ?_ | refine AW.drawW mixed (by kernel_rfl) ?_))
  · rw [dec_neg (p := a = b) (fun e => by subst e; simp [dec_eq] at hc)]
    exact RQ.fin rfl rfl rfl
  · have e : atI a.attrs i = atI b.attrs i := by
      simp only [Bool.and_eq_true, dec_true] at hc
      rw [attr_eq, name_eq]; grind
    refine Rnd.norm (i + 1) (Le.cut 2 rfl (by repeat' (first | exact trivial | refine ⟨rfl, ?_⟩)) rfl rfl (Nat.zero_le _)) ⟨by omega, by omega, ?_⟩ (by omega)
    rw [take_next h0 (by assumption), take_next h0 (by omega), h2, e]
  all_goals
    have ea : a.attrs = b.attrs := by
      rw [take_end (by assumption), take_end (by omega)] at h2
      exact h2
    refine RQ.fin rfl rfl (congrArg bav ?_)
    rw [Bool.eq_iff_iff]
    simp only [Bool.and_eq_true, Bool.and_eq_false_iff, dec_true, dec_false, node_eq, name_eq, beq_iff_eq] at *
    grind
theorem rSame_c (f g : List Node) (hf : Fit f) : PureC Tryz.prog 14 [fav f, fav g] (bav (dec (f = g))) := by
  have hl := hf.len
  refine PureC.mk tabs Tryz.func14 32 [.tmp 4] rfl rfl rfl rfl rfl ?_; intro w0 X
  (repeat' (first | ((with_reducible show AL _ _ _ _ _); first | (refine AL.step tabs rfl ?_; try dsimp only [len, List.nil_append, List.cons_append]) | refine AL.nil ?_ | (refine AL.gsplitE rfl rfl rfl (fun hc => ?_) (fun hc => ?_) <;> (fail_if_success (exact absurd hc (by decide))) <;> (try simp only [hsx] at hc) <;> (try first | (exfalso; omega) | contradiction | (exfalso; simp [dec_eq] at hc; done))) | (refine AL.op rfl (OpOK.ari64 rfl rfl rfl rfl rfl (by omega) (by omega)) ?_) | (refine AL.op rfl (OpOK.index_map tabs rfl rfl rfl rfl rfl rfl rfl (fun _ => rfl) (by decide) (by omega) (by omega)) ?_) | (refine AL.op rfl (OpOK.eqs rfl rfl rfl rfl eqt45 rfl rfl) ?_) | (refine AL.op rfl (OpOK.eqs rfl rfl rfl rfl eqt68 rfl rfl) ?_) | (refine AL.op rfl (OpOK.eqs rfl rfl rfl rfl eqt146 rfl rfl) ?_) | (refine AL.op rfl (OpOK.eqs rfl rfl rfl rfl eqt151 rfl rfl) ?_)) | ((with_reducible show DQ _ _ _ _ _ _); first | refine DQ.stepc (LS.val tabs rfl rfl rfl) rfl rfl rfl rfl rfl ?_ | refine DQ.stepc (LS.skip rfl rfl) rfl rfl rfl rfl rfl ?_ | refine DQ.nilM (by kernel_rfl) ?_ | refine DQ.stepc (LS.ari64 rfl rfl rfl rfl rfl rfl (by omega) (by omega)) rfl rfl rfl rfl rfl ?_ | refine DQ.stepc (LS.index_map tabs rfl rfl rfl rfl rfl rfl rfl rfl (fun _ => rfl) (by decide) (by omega) (by omega)) rfl rfl rfl rfl rfl ?_ | (refine DQ.gsplitE rfl rfl rfl (fun hc => ?_) (fun hc => ?_) <;> (fail_if_success (exact absurd hc (by decide))) <;> (try simp only [hsx] at hc) <;> (try first | (exfalso; omega) | contradiction | (exfalso; simp [dec_eq] at hc; done))) | refine DQ.stepc (LS.eqs rfl rfl rfl rfl rfl eqt45 rfl rfl) rfl rfl rfl rfl rfl ?_ | refine DQ.stepc (LS.eqs rfl rfl rfl rfl rfl eqt68 rfl rfl) rfl rfl rfl rfl rfl ?_ | refine DQ.stepc (LS.eqs rfl rfl rfl rfl rfl eqt146 rfl rfl) rfl rfl rfl rfl rfl ?_ | refine DQ.stepc (LS.eqs rfl rfl rfl rfl rfl eqt151 rfl rfl) rfl rfl rfl rfl rfl ?_) | refine AW.seq ?_ | refine AW.region ?_ | refine Then.norm ?_ | refine AW.skip ?_ | refine AW.block ?_ | refine InB.norm ?_ | refine AW.condT rfl ?_ | refine AW.condF rfl ?_ | (refine AW.cond rfl (fun hc => ?_) (fun hc => ?_) <;> (try simp only [hsx] at hc) <;> (try first | (exfalso; omega) | contradiction | (exfalso; simp [dec_eq] at hc; done))) | refine AW.ret ?_ | refine AW.exit ?_ | refine Then.ret ?_ | refine Then.exit ?_ | refine InB.ret ?_ | refine InB.here ?_ | refine InB.off rfl ?_ | refine Rnd.ret ?_ | refine Rnd.exit ?_ | refine AW.drawW mixed (by kernel_rfl) ?_))
  · rw [dec_neg (p := f = g) (fun e => by subst e; exact hc rfl)]
    exact RQ.fin rfl rfl rfl
  have hlen : f.length = g.length := by grind
  refine AW.loop (α := Int) (fun i => ⟨[(2, .ptr 0 1 0 0), (3, .ptr 1 1 0 0), (15, iav (f.map Node.iv).length), (16, iav i)], [⟨24, 1, [[.imm (.sl (f.map Node.iv))]]⟩, ⟨24, 1, [[.imm (.sl (g.map Node.iv))]]⟩]⟩) (fun i => 0 ≤ i ∧ i ≤ f.length ∧ f.take i.toNat = g.take i.toNat) (fun i => (f.length - i).toNat) 0 (Le.cut 2 rfl (by repeat' (first | exact trivial | refine ⟨rfl, ?_⟩)) rfl rfl (Nat.zero_le _)) ⟨by omega, by omega, rfl⟩ ?_
  intro i ⟨h0, h1, h2⟩
  (repeat' (first | ((with_reducible show AL _ _ _ _ _); first | (refine AL.step tabs rfl ?_; try dsimp only [len, List.nil_append, List.cons_append]) | refine AL.nil ?_ | (refine AL.gsplitE rfl rfl rfl (fun hc => ?_) (fun hc => ?_) <;> (fail_if_success (exact absurd hc (by decide))) <;> (try simp only [hsx] at hc) <;> (try first | (exfalso; omega) | contradiction | (exfalso; simp [dec_eq] at hc; done))) | (refine AL.op rfl (OpOK.ari64 rfl rfl rfl rfl rfl (by omega) (by omega)) ?_) | (refine AL.op rfl (OpOK.index_map tabs rfl rfl rfl rfl rfl rfl rfl (fun _ => rfl) (by decide) (by omega) (by omega)) ?_) | (refine AL.op rfl (OpOK.eqs rfl rfl rfl rfl eqt45 rfl rfl) ?_) | (refine AL.op rfl (OpOK.eqs rfl rfl rfl rfl eqt68 rfl rfl) ?_) | (refine AL.op rfl (OpOK.eqs rfl rfl rfl rfl eqt146 rfl rfl) ?_) | (refine AL.op rfl (OpOK.eqs rfl rfl rfl rfl eqt151 rfl rfl) ?_)) | ((with_reducible show DQ _ _ _ _ _ _); first | refine DQ.stepc (LS.call rfl rfl rfl rfl rfl (rSameNode_c (atI f i) (atI g i) (hf.atI i (by omega) (by omega))) rfl) rfl rfl rfl rfl rfl ?_ | refine DQ.stepc (LS.val tabs rfl rfl rfl) rfl rfl rfl rfl rfl ?_ | refine DQ.stepc (LS.skip rfl rfl) rfl rfl rfl rfl rfl ?_ | refine DQ.nilM (by kernel_rfl) ?_ | refine DQ.stepc (LS.ari64 rfl rfl rfl rfl rfl rfl (by omega) (by omega)) rfl rfl rfl rfl rfl ?_ | refine DQ.stepc (LS.index_map tabs rfl rfl rfl rfl rfl rfl rfl rfl (fun _ => rfl) (by decide) (by omega) (by omega)) rfl rfl rfl rfl rfl ?_ | (refine DQ.gsplitE rfl rfl rfl (fun hc => ?_) (fun hc => ?_) <;> (fail_if_success (exact absurd hc (by decide))) <;> (try simp only [hsx] at hc) <;> (try first | (exfalso; omega) | contradiction | (exfalso; simp [dec_eq] at hc; done))) | refine DQ.stepc (LS.eqs rfl rfl rfl rfl rfl eqt45 rfl rfl) rfl rfl rfl rfl rfl ?_ | refine DQ.stepc (LS.eqs rfl rfl rfl rfl rfl eqt68 rfl rfl) rfl rfl rfl rfl rfl ?_ | refine DQ.stepc (LS.eqs rfl rfl rfl rfl rfl eqt146 rfl rfl) rfl rfl rfl rfl rfl ?_ | refine DQ.stepc (LS.eqs rfl rfl rfl rfl rfl eqt151 rfl rfl) rfl rfl rfl rfl rfl ?_) | refine AW.seq ?_ | refine AW.region ?_ | refine Then.norm ?_ | refine AW.skip ?_ | refine AW.block ?_ | refine InB.norm ?_ | refine AW.condT rfl ?_ | refine AW.condF rfl ?_ | (refine AW.cond rfl (fun hc => ?_) (fun hc => ?_) <;> (try simp only [hsx] at hc) <;> (try first | (exfalso; omega) | contradiction | (exfalso; simp [dec_eq] at hc; done))) | refine AW.ret ?_ | refine AW.exit ?_ | refine Then.ret ?_ | refine Then.exit ?_ | refine InB.ret ?_ | refine InB.here ?_ | refine InB.off rfl ?_ | refine Rnd.ret ?_ | refine Rnd.exit ?_ | refine AW.drawW mixed (by kernel_rfl) ?_))
  · rw [dec_neg (p := f = g) (list_ne hc)]
    exact RQ.fin rfl rfl rfl
  · refine Rnd.norm (i + 1) (Le.cut 2 rfl (by repeat' (first | exact trivial | refine ⟨rfl, ?_⟩)) rfl rfl (Nat.zero_le _)) ⟨by omega, by omega, ?_⟩ (by omega)
    rw [take_next h0 (by assumption), take_next h0 (by omega), h2, hc]
  · rw [take_end hc, take_end (by omega)] at h2
    rw [dec_pos (p := f = g) h2]; exact RQ.fin rfl rfl rfl
end Go.Proofs.YteijifoobaoclaaGreat.A
namespace Go.Proofs.YteijifoobaoclaaGreat.A
set_option linter.unusedVariables false
set_option linter.unusedSimpArgs false
set_option maxRecDepth 100000
set_option maxHeartbeats 4000000
def Chain : List Node → List Change → List Node → Prop
  | f, [], g => f = g
  | f, c :: r, g => ∃ m, PureC Tryz.prog 38 [fav f, c.av] (.tup [fav m, iav 0]) ∧ Chain m r g
theorem allMany_c (f : List Node) (l : List Change) (hf : Fit f) (hr : rightP f) (hl : 4096 < l.length) : PureC Tryz.prog 21 [fav f, .imm (.sl (l.map Change.iv))] (.tup [fav [], iav 0, iav 3]) := by
  have hml : (l.map Change.iv).length = l.length := List.length_map _
  refine PureC.mk tabs Tryz.func21 47 [.cell 4 24, .tmp 5, .tmp 6] rfl rfl rfl rfl rfl ?_; intro w0 X
  (repeat' (first | ((with_reducible show AL _ _ _ _ _); first | (refine AL.step tabs rfl ?_; try dsimp only [len, List.nil_append, List.cons_append]) | refine AL.op rfl (OpOK.call rfl rfl rfl rfl (pure_true (right_c f hf) hr) rfl) ?_ | refine AL.nil ?_ | (refine AL.gsplitE rfl rfl rfl (fun hc => ?_) (fun hc => ?_) <;> (fail_if_success (exact absurd hc (by decide))) <;> (try simp only [hsx] at hc) <;> (try first | (exfalso; omega) | contradiction | (exfalso; simp [dec_eq] at hc; done))) | (refine AL.op rfl (OpOK.ari64 rfl rfl rfl rfl rfl (by omega) (by omega)) ?_) | (refine AL.op rfl (OpOK.index_map tabs rfl rfl rfl rfl rfl rfl rfl (fun _ => rfl) (by decide) (by omega) (by omega)) ?_) | (refine AL.op rfl (OpOK.eqs rfl rfl rfl rfl eqt45 rfl rfl) ?_) | (refine AL.op rfl (OpOK.eqs rfl rfl rfl rfl eqt68 rfl rfl) ?_) | (refine AL.op rfl (OpOK.eqs rfl rfl rfl rfl eqt146 rfl rfl) ?_) | (refine AL.op rfl (OpOK.eqs rfl rfl rfl rfl eqt151 rfl rfl) ?_)) | fail | refine AW.seq ?_ | refine AW.region ?_ | refine Then.norm ?_ | refine AW.skip ?_ | refine AW.block ?_ | refine InB.norm ?_ | refine AW.condT rfl ?_ | refine AW.condF rfl ?_ | (refine AW.cond rfl (fun hc => ?_) (fun hc => ?_) <;> (try simp only [hsx] at hc) <;> (try first | (exfalso; omega) | contradiction | (exfalso; simp [dec_eq] at hc; done))) | refine AW.ret ?_ | refine AW.exit ?_ | refine Then.ret ?_ | refine Then.exit ?_ | refine InB.ret ?_ | refine InB.here ?_ | refine InB.off rfl ?_ | refine Rnd.ret ?_ | refine Rnd.exit ?_))
  all_goals first
    | (exfalso; omega)
    | exact RQ.fin rfl rfl rfl
theorem copyP_c (f : List Node) (hf : Fit f) (h1 : 0 < f.length) : PureC Tryz.prog 37 [fav f] (fav f) := by
  obtain ⟨T, hTe⟩ : ∃ T, T = f.map rowS := ⟨_, rfl⟩
  have hT : T.length = f.length := by rw [hTe]; exact List.length_map _
  have hTi : T.all (fun r => r.all AV.dat) = true := by rw [hTe]; exact rowS_dat f
  have hTl : ∀ r ∈ T, r.length = 16 := by rw [hTe]; exact rowS_16 f
  have hcp : ∀ i : Int, 0 ≤ i → i < f.length → PureC Tryz.prog 55 [(atI f i).av] (.agg (atI T i)) := by rw [hTe]; exact copyAt_c f hf
  have hl := hf.len
  have hm : (List.map Node.iv f).length = f.length := List.length_map _
  refine PureC.mk tabs Tryz.func37 27 [.cell 2 24] rfl rfl rfl rfl rfl ?_; intro w0 X
  refine AW.reserve 52 16 rfl ?_
  (repeat' (first | ((with_reducible show AL _ _ _ _ _); first | (refine AL.step tabs rfl ?_; try dsimp only [len, List.nil_append, List.cons_append]) | refine AL.ope rfl (OpOK.make_at 0 tabs rfl rfl rfl rfl rfl rfl rfl rfl rfl (by omega) (by omega) (by omega) rfl (by simp only [ti52]; omega)) rfl ?_ | refine AL.nil ?_ | (refine AL.gsplitE rfl rfl rfl (fun hc => ?_) (fun hc => ?_) <;> (fail_if_success (exact absurd hc (by decide))) <;> (try simp only [hsx] at hc) <;> (try first | (exfalso; omega) | contradiction | (exfalso; simp [dec_eq] at hc; done))) | (refine AL.op rfl (OpOK.ari64 rfl rfl rfl rfl rfl (by omega) (by omega)) ?_) | (refine AL.op rfl (OpOK.index_map tabs rfl rfl rfl rfl rfl rfl rfl (fun _ => rfl) (by decide) (by omega) (by omega)) ?_) | (refine AL.op rfl (OpOK.eqs rfl rfl rfl rfl eqt45 rfl rfl) ?_) | (refine AL.op rfl (OpOK.eqs rfl rfl rfl rfl eqt68 rfl rfl) ?_) | (refine AL.op rfl (OpOK.eqs rfl rfl rfl rfl eqt146 rfl rfl) ?_) | (refine AL.op rfl (OpOK.eqs rfl rfl rfl rfl eqt151 rfl rfl) ?_)) | ((with_reducible show DQ _ _ _ _ _ _); first | refine DQ.stepc (LS.val tabs rfl rfl rfl) rfl rfl rfl rfl rfl ?_ | refine DQ.stepc (LS.skip rfl rfl) rfl rfl rfl rfl rfl ?_ | refine DQ.nilM (by kernel_rfl) ?_ | refine DQ.stepc (LS.ari64 rfl rfl rfl rfl rfl rfl (by omega) (by omega)) rfl rfl rfl rfl rfl ?_ | refine DQ.stepc (LS.index_map tabs rfl rfl rfl rfl rfl rfl rfl rfl (fun _ => rfl) (by decide) (by omega) (by omega)) rfl rfl rfl rfl rfl ?_ | (refine DQ.gsplitE rfl rfl rfl (fun hc => ?_) (fun hc => ?_) <;> (fail_if_success (exact absurd hc (by decide))) <;> (try simp only [hsx] at hc) <;> (try first | (exfalso; omega) | contradiction | (exfalso; simp [dec_eq] at hc; done))) | refine DQ.stepc (LS.eqs rfl rfl rfl rfl rfl eqt45 rfl rfl) rfl rfl rfl rfl rfl ?_ | refine DQ.stepc (LS.eqs rfl rfl rfl rfl rfl eqt68 rfl rfl) rfl rfl rfl rfl rfl ?_ | refine DQ.stepc (LS.eqs rfl rfl rfl rfl rfl eqt146 rfl rfl) rfl rfl rfl rfl rfl ?_ | refine DQ.stepc (LS.eqs rfl rfl rfl rfl rfl eqt151 rfl rfl) rfl rfl rfl rfl rfl ?_) | refine AW.seq ?_ | refine AW.region ?_ | refine Then.norm ?_ | refine AW.skip ?_ | refine AW.block ?_ | refine InB.norm ?_ | refine AW.condT rfl ?_ | refine AW.condF rfl ?_ | (refine AW.cond rfl (fun hc => ?_) (fun hc => ?_) <;> (try simp only [hsx] at hc) <;> (try first | (exfalso; omega) | contradiction | (exfalso; simp [dec_eq] at hc; done))) | refine AW.ret ?_ | refine AW.exit ?_ | refine Then.ret ?_ | refine Then.exit ?_ | refine InB.ret ?_ | refine InB.here ?_ | refine InB.off rfl ?_ | refine Rnd.ret ?_ | refine Rnd.exit ?_ | refine AW.drawW mixed (by kernel_rfl) ?_))
  refine AW.loop (α := Int) (fun i => ⟨[(2, .ptr 2 1 0 0), (3, .ptr 3 1 0 0), (12, .imm (.sl (f.map Node.iv))), (13, iav (List.map Node.iv f).length), (14, iav i)], [⟨52, 16, T.take i.toNat ++ List.replicate (f.length - i.toNat) ti52.zero⟩, ⟨24, 1, [[.imm (.sl (f.map Node.iv))]]⟩, ⟨24, 1, [[.nils]]⟩, ⟨24, 1, [[.os 0 f.length]]⟩]⟩) (fun i => 0 ≤ i ∧ i ≤ f.length) (fun i => (f.length - i).toNat) 0 (Le.cut 4 (by rw [← hm]; rfl) (by repeat' (first | exact trivial | refine ⟨rfl, ?_⟩)) rfl (by simp only [List.all_cons, List.all_nil, Bool.and_true, Bool.and_eq_true]; exact ⟨all_rows _ _ _ (all_im hTi _), rfl, rfl, rfl⟩) (Nat.zero_le _)) ⟨by omega, by omega⟩ ?_
  intro i ⟨h0, h2⟩
  (repeat' (first | ((with_reducible show AL _ _ _ _ _); first | (refine AL.step tabs rfl ?_; try dsimp only [len, List.nil_append, List.cons_append]) | refine AL.nil ?_ | (refine AL.gsplitE rfl rfl rfl (fun hc => ?_) (fun hc => ?_) <;> (fail_if_success (exact absurd hc (by decide))) <;> (try simp only [hsx] at hc) <;> (try first | (exfalso; omega) | contradiction | (exfalso; simp [dec_eq] at hc; done))) | (refine AL.op rfl (OpOK.ari64 rfl rfl rfl rfl rfl (by omega) (by omega)) ?_) | (refine AL.op rfl (OpOK.index_map tabs rfl rfl rfl rfl rfl rfl rfl (fun _ => rfl) (by decide) (by omega) (by omega)) ?_) | (refine AL.op rfl (OpOK.eqs rfl rfl rfl rfl eqt45 rfl rfl) ?_) | (refine AL.op rfl (OpOK.eqs rfl rfl rfl rfl eqt68 rfl rfl) ?_) | (refine AL.op rfl (OpOK.eqs rfl rfl rfl rfl eqt146 rfl rfl) ?_) | (refine AL.op rfl (OpOK.eqs rfl rfl rfl rfl eqt151 rfl rfl) ?_)) | ((with_reducible show DQ _ _ _ _ _ _); first | refine DQ.stepc (LS.call rfl rfl rfl rfl rfl (hcp i h0 (by omega)) rfl) rfl rfl rfl rfl rfl ?_ | refine DQ.stepc (LS.index_own (b := ⟨52, 16, T.take i.toNat ++ List.replicate (f.length - i.toNat) ti52.zero⟩) tabs rfl rfl rfl rfl rfl rfl rfl rfl rfl (take_rows _ _ _ _ hT h0 h2).symm rfl (by omega) (by omega)) rfl rfl rfl rfl rfl ?_ | refine DQ.stepc (LS.store (i := ti52) (v := .agg (atI T i)) (ty := 52) (sz := 16) (rows := T.take i.toNat ++ List.replicate (f.length - i.toNat) ti52.zero) tabs rfl rfl rfl rfl rfl rfl rfl (take_rows _ _ _ _ hT h0 h2).symm (hTl _ (atI_mem h0 (by omega))) (by simp only [avCells, List.all_eq_true]; exact fun c hc => im1_cell (List.all_eq_true.1 (List.all_eq_true.1 hTi _ (atI_mem h0 (by omega))) c hc)) (by decide) (take_at _ _ _ _ hT h0 (by omega))) rfl rfl rfl rfl rfl ?_ | refine DQ.stepc (LS.val tabs rfl rfl rfl) rfl rfl rfl rfl rfl ?_ | refine DQ.stepc (LS.skip rfl rfl) rfl rfl rfl rfl rfl ?_ | refine DQ.nilM (by kernel_rfl) ?_ | refine DQ.stepc (LS.ari64 rfl rfl rfl rfl rfl rfl (by omega) (by omega)) rfl rfl rfl rfl rfl ?_ | refine DQ.stepc (LS.index_map tabs rfl rfl rfl rfl rfl rfl rfl rfl (fun _ => rfl) (by decide) (by omega) (by omega)) rfl rfl rfl rfl rfl ?_ | (refine DQ.gsplitE rfl rfl rfl (fun hc => ?_) (fun hc => ?_) <;> (fail_if_success (exact absurd hc (by decide))) <;> (try simp only [hsx] at hc) <;> (try first | (exfalso; omega) | contradiction | (exfalso; simp [dec_eq] at hc; done))) | refine DQ.stepc (LS.eqs rfl rfl rfl rfl rfl eqt45 rfl rfl) rfl rfl rfl rfl rfl ?_ | refine DQ.stepc (LS.eqs rfl rfl rfl rfl rfl eqt68 rfl rfl) rfl rfl rfl rfl rfl ?_ | refine DQ.stepc (LS.eqs rfl rfl rfl rfl rfl eqt146 rfl rfl) rfl rfl rfl rfl rfl ?_ | refine DQ.stepc (LS.eqs rfl rfl rfl rfl rfl eqt151 rfl rfl) rfl rfl rfl rfl rfl ?_) | refine AW.seq ?_ | refine AW.region ?_ | refine Then.norm ?_ | refine AW.skip ?_ | refine AW.block ?_ | refine InB.norm ?_ | refine AW.condT rfl ?_ | refine AW.condF rfl ?_ | (refine AW.cond rfl (fun hc => ?_) (fun hc => ?_) <;> (try simp only [hsx] at hc) <;> (try first | (exfalso; omega) | contradiction | (exfalso; simp [dec_eq] at hc; done))) | refine AW.ret ?_ | refine AW.exit ?_ | refine Then.ret ?_ | refine Then.exit ?_ | refine InB.ret ?_ | refine InB.here ?_ | refine InB.off rfl ?_ | refine Rnd.ret ?_ | refine Rnd.exit ?_ | refine AW.drawW mixed (by kernel_rfl) ?_))
  · refine Rnd.norm (i + 1) (Le.cut 4 (by rw [← take_set T ti52.zero f.length i hT h0 (by assumption)]; rfl) (by repeat' (first | exact trivial | refine ⟨rfl, ?_⟩)) rfl (by simp only [List.all_cons, List.all_nil, Bool.and_true, Bool.and_eq_true]; exact ⟨all_rows _ _ _ (all_im hTi _), rfl, rfl, rfl⟩) (Nat.zero_le _)) ⟨by omega, by omega⟩ (by omega)
  · have e : T.take i.toNat ++ List.replicate (f.length - i.toNat) ti52.zero = T := by
      rw [take_end (by omega), show f.length - i.toNat = 0 by omega]; simp
    refine RQ.ret rfl ?_
    rw [e, hTe]
    exact fzS (f := f) (id := 0) rfl
theorem all_c (f g : List Node) (l : List Change) (hf : Fit f) (hr : rightP f) (h0 : 0 < f.length) (hl : l.length ≤ 4096) (hch : Chain f l g) : PureC Tryz.prog 21 [fav f, .imm (.sl (l.map Change.iv))] (.tup [fav g, iav l.length, iav 0]) := by
  have hml : (l.map Change.iv).length = l.length := List.length_map _
  refine PureC.mk tabs Tryz.func21 47 [.cell 4 24, .tmp 5, .tmp 6] rfl rfl rfl rfl rfl ?_; intro w0 X
  (repeat' (first | ((with_reducible show AL _ _ _ _ _); first | (refine AL.step tabs rfl ?_; try dsimp only [len, List.nil_append, List.cons_append]) | refine AL.op rfl (OpOK.call rfl rfl rfl rfl (pure_true (right_c f hf) hr) rfl) ?_ | refine AL.op rfl (OpOK.call rfl rfl rfl rfl (copyP_c f hf h0) rfl) ?_ | refine AL.nil ?_ | (refine AL.gsplitE rfl rfl rfl (fun hc => ?_) (fun hc => ?_) <;> (fail_if_success (exact absurd hc (by decide))) <;> (try simp only [hsx] at hc) <;> (try first | (exfalso; omega) | contradiction | (exfalso; simp [dec_eq] at hc; done))) | (refine AL.op rfl (OpOK.ari64 rfl rfl rfl rfl rfl (by omega) (by omega)) ?_) | (refine AL.op rfl (OpOK.index_map tabs rfl rfl rfl rfl rfl rfl rfl (fun _ => rfl) (by decide) (by omega) (by omega)) ?_) | (refine AL.op rfl (OpOK.eqs rfl rfl rfl rfl eqt45 rfl rfl) ?_) | (refine AL.op rfl (OpOK.eqs rfl rfl rfl rfl eqt68 rfl rfl) ?_) | (refine AL.op rfl (OpOK.eqs rfl rfl rfl rfl eqt146 rfl rfl) ?_) | (refine AL.op rfl (OpOK.eqs rfl rfl rfl rfl eqt151 rfl rfl) ?_)) | refine AW.seq ?_ | refine AW.region ?_ | refine Then.norm ?_ | refine AW.skip ?_ | refine AW.block ?_ | refine InB.norm ?_ | refine AW.condT rfl ?_ | refine AW.condF rfl ?_ | (refine AW.cond rfl (fun hc => ?_) (fun hc => ?_) <;> (try simp only [hsx] at hc) <;> (try first | (exfalso; omega) | contradiction | (exfalso; simp [dec_eq] at hc; done))) | refine AW.ret ?_ | refine AW.exit ?_ | refine Then.ret ?_ | refine Then.exit ?_ | refine InB.ret ?_ | refine InB.here ?_ | refine InB.off rfl ?_ | refine Rnd.ret ?_ | refine Rnd.exit ?_))
  all_goals first
    | (exfalso; omega)
    | skip
  refine AW.loop (α := List Node × Int) (fun y => ⟨[(1, .imm (.sl (l.map Change.iv))), (4, .ptr 1 1 0 0), (7, .ptr 2 1 0 0), (24, .imm (.sl (l.map Change.iv))), (25, iav (l.map Change.iv).length), (26, iav y.2)], [⟨24, 1, [[.imm (.sl (f.map Node.iv))]]⟩, ⟨24, 1, [[.nils]]⟩, ⟨24, 1, [[.imm (.sl (y.1.map Node.iv))]]⟩]⟩) (fun y => 0 ≤ y.2 ∧ y.2 ≤ l.length ∧ Chain y.1 (l.drop y.2.toNat) g) (fun y => (l.length - y.2).toNat) (f, 0) (Le.cut 3 rfl (by repeat' (first | exact trivial | refine ⟨rfl, ?_⟩)) rfl rfl (Nat.zero_le _)) ⟨by simp, by simp, hch⟩ ?_
  rintro ⟨G, i⟩ ⟨h1, h2, h4⟩
  simp only at h1 h2 h4
  by_cases hi : i < l.length
  · rw [drop_next h1 hi] at h4
    obtain ⟨m, h5, h6⟩ := h4
    (repeat' (first | ((with_reducible show AL _ _ _ _ _); first | (refine AL.step tabs rfl ?_; try dsimp only [len, List.nil_append, List.cons_append]) | refine AL.op rfl (OpOK.call rfl rfl rfl rfl h5 rfl) ?_ | refine AL.nil ?_ | (refine AL.gsplitE rfl rfl rfl (fun hc => ?_) (fun hc => ?_) <;> (fail_if_success (exact absurd hc (by decide))) <;> (try simp only [hsx] at hc) <;> (try first | (exfalso; omega) | contradiction | (exfalso; simp [dec_eq] at hc; done))) | (refine AL.op rfl (OpOK.ari64 rfl rfl rfl rfl rfl (by omega) (by omega)) ?_) | (refine AL.op rfl (OpOK.index_map tabs rfl rfl rfl rfl rfl rfl rfl (fun _ => rfl) (by decide) (by omega) (by omega)) ?_) | (refine AL.op rfl (OpOK.eqs rfl rfl rfl rfl eqt45 rfl rfl) ?_) | (refine AL.op rfl (OpOK.eqs rfl rfl rfl rfl eqt68 rfl rfl) ?_) | (refine AL.op rfl (OpOK.eqs rfl rfl rfl rfl eqt146 rfl rfl) ?_) | (refine AL.op rfl (OpOK.eqs rfl rfl rfl rfl eqt151 rfl rfl) ?_)) | refine AW.seq ?_ | refine AW.region ?_ | refine Then.norm ?_ | refine AW.skip ?_ | refine AW.block ?_ | refine InB.norm ?_ | refine AW.condT rfl ?_ | refine AW.condF rfl ?_ | (refine AW.cond rfl (fun hc => ?_) (fun hc => ?_) <;> (try simp only [hsx] at hc) <;> (try first | (exfalso; omega) | contradiction | (exfalso; simp [dec_eq] at hc; done))) | refine AW.ret ?_ | refine AW.exit ?_ | refine Then.ret ?_ | refine Then.exit ?_ | refine InB.ret ?_ | refine InB.here ?_ | refine InB.off rfl ?_ | refine Rnd.ret ?_ | refine Rnd.exit ?_))
    all_goals first
      | (exfalso; omega)
      | (refine Rnd.norm (m, i + 1) (Le.cut 3 rfl (by repeat' (first | exact trivial | refine ⟨rfl, ?_⟩)) rfl rfl (Nat.zero_le _)) ⟨by simp only; omega, by simp only; omega, h6⟩ (by simp only; omega))
  · rw [drop_end (by omega)] at h4
    have e : G = g := h4
    subst e
    (repeat' (first | ((with_reducible show AL _ _ _ _ _); first | (refine AL.step tabs rfl ?_; try dsimp only [len, List.nil_append, List.cons_append]) | refine AL.nil ?_ | (refine AL.gsplitE rfl rfl rfl (fun hc => ?_) (fun hc => ?_) <;> (fail_if_success (exact absurd hc (by decide))) <;> (try simp only [hsx] at hc) <;> (try first | (exfalso; omega) | contradiction | (exfalso; simp [dec_eq] at hc; done))) | (refine AL.op rfl (OpOK.ari64 rfl rfl rfl rfl rfl (by omega) (by omega)) ?_) | (refine AL.op rfl (OpOK.index_map tabs rfl rfl rfl rfl rfl rfl rfl (fun _ => rfl) (by decide) (by omega) (by omega)) ?_) | (refine AL.op rfl (OpOK.eqs rfl rfl rfl rfl eqt45 rfl rfl) ?_) | (refine AL.op rfl (OpOK.eqs rfl rfl rfl rfl eqt68 rfl rfl) ?_) | (refine AL.op rfl (OpOK.eqs rfl rfl rfl rfl eqt146 rfl rfl) ?_) | (refine AL.op rfl (OpOK.eqs rfl rfl rfl rfl eqt151 rfl rfl) ?_)) | refine AW.seq ?_ | refine AW.region ?_ | refine Then.norm ?_ | refine AW.skip ?_ | refine AW.block ?_ | refine InB.norm ?_ | refine AW.condT rfl ?_ | refine AW.condF rfl ?_ | (refine AW.cond rfl (fun hc => ?_) (fun hc => ?_) <;> (try simp only [hsx] at hc) <;> (try first | (exfalso; omega) | contradiction | (exfalso; simp [dec_eq] at hc; done))) | refine AW.ret ?_ | refine AW.exit ?_ | refine Then.ret ?_ | refine Then.exit ?_ | refine InB.ret ?_ | refine InB.here ?_ | refine InB.off rfl ?_ | refine Rnd.ret ?_ | refine Rnd.exit ?_))
    all_goals first
      | (exfalso; omega)
      | (rw [← hml]; exact RQ.fin rfl rfl rfl)
/-- A call's changes make the forest that it answers. -/
theorem changes_c (f : List Node) (h : Int) (deep : Bool) (a : Ans) (F : List Node) (n w : Int) (hb : PureC Tryz.prog 15 [] (bav true)) (hc1 : PureC Tryz.prog 11 [fav f, iav h, bav deep] a.av) (h1 : a.why ≠ 0 → a.l = []) (hF : Fit F) (h2 : a.why = 0 → PureC Tryz.prog 21 [fav f, .imm (.sl (a.l.map Change.iv))] (.tup [fav F, iav n, iav w]) ∧ (a.l.length ≤ 4096 → w = 0 ∧ n = a.l.length ∧ F = a.g)) : PureC Tryz.prog 9 [fav f, iav h, bav deep] (bav true) := by
  have hml : (a.l.map Change.iv).length = a.l.length := List.length_map _
  by_cases hw : a.why = 0
  · obtain ⟨h3, h4⟩ := h2 hw
    refine PureC.mk tabs Tryz.func9 55 [.tmp 6] rfl rfl rfl rfl rfl ?_; intro w0 X
    (repeat' (first | ((with_reducible show AL _ _ _ _ _); first | (refine AL.step tabs rfl ?_; try dsimp only [len, List.nil_append, List.cons_append]) | refine AL.op rfl (OpOK.call rfl rfl rfl rfl hb rfl) ?_ | refine AL.op rfl (OpOK.call rfl rfl rfl rfl hc1 rfl) ?_ | refine AL.op rfl (OpOK.call rfl rfl rfl rfl h3 rfl) ?_ | refine AL.op rfl (OpOK.call rfl rfl rfl rfl (rSame_c F a.g hF) rfl) ?_ | refine AL.nil ?_ | (refine AL.gsplitE rfl rfl rfl (fun hc => ?_) (fun hc => ?_) <;> (fail_if_success (exact absurd hc (by decide))) <;> (try simp only [hsx] at hc) <;> (try first | (exfalso; omega) | contradiction | (exfalso; simp [dec_eq] at hc; done))) | (refine AL.op rfl (OpOK.ari64 rfl rfl rfl rfl rfl (by omega) (by omega)) ?_) | (refine AL.op rfl (OpOK.index_map tabs rfl rfl rfl rfl rfl rfl rfl (fun _ => rfl) (by decide) (by omega) (by omega)) ?_) | (refine AL.op rfl (OpOK.eqs rfl rfl rfl rfl eqt45 rfl rfl) ?_) | (refine AL.op rfl (OpOK.eqs rfl rfl rfl rfl eqt68 rfl rfl) ?_) | (refine AL.op rfl (OpOK.eqs rfl rfl rfl rfl eqt146 rfl rfl) ?_) | (refine AL.op rfl (OpOK.eqs rfl rfl rfl rfl eqt151 rfl rfl) ?_)) | refine AW.seq ?_ | refine AW.region ?_ | refine Then.norm ?_ | refine AW.skip ?_ | refine AW.block ?_ | refine InB.norm ?_ | refine AW.condT rfl ?_ | refine AW.condF rfl ?_ | (refine AW.cond rfl (fun hc => ?_) (fun hc => ?_) <;> (try simp only [hsx] at hc) <;> (try first | (exfalso; omega) | contradiction | (exfalso; simp [dec_eq] at hc; done))) | refine AW.ret ?_ | refine AW.exit ?_ | refine Then.ret ?_ | refine Then.exit ?_ | refine InB.ret ?_ | refine InB.here ?_ | refine InB.off rfl ?_ | refine Rnd.ret ?_ | refine Rnd.exit ?_))
    all_goals first
      | exact RQ.fin rfl rfl rfl
      | (obtain ⟨rfl, rfl, rfl⟩ := h4 (by omega); refine RQ.fin rfl rfl (congrArg bav ?_); simp [dec_eq]; done)
      | (exfalso; have := h4 (by omega); omega)
  · have h3 := h1 hw
    refine PureC.mk tabs Tryz.func9 55 [.tmp 6] rfl rfl rfl rfl rfl ?_; intro w0 X
    (repeat' (first | ((with_reducible show AL _ _ _ _ _); first | (refine AL.step tabs rfl ?_; try dsimp only [len, List.nil_append, List.cons_append]) | refine AL.op rfl (OpOK.call rfl rfl rfl rfl hb rfl) ?_ | refine AL.op rfl (OpOK.call rfl rfl rfl rfl hc1 rfl) ?_ | refine AL.nil ?_ | (refine AL.gsplitE rfl rfl rfl (fun hc => ?_) (fun hc => ?_) <;> (fail_if_success (exact absurd hc (by decide))) <;> (try simp only [hsx] at hc) <;> (try first | (exfalso; omega) | contradiction | (exfalso; simp [dec_eq] at hc; done))) | (refine AL.op rfl (OpOK.ari64 rfl rfl rfl rfl rfl (by omega) (by omega)) ?_) | (refine AL.op rfl (OpOK.index_map tabs rfl rfl rfl rfl rfl rfl rfl (fun _ => rfl) (by decide) (by omega) (by omega)) ?_) | (refine AL.op rfl (OpOK.eqs rfl rfl rfl rfl eqt45 rfl rfl) ?_) | (refine AL.op rfl (OpOK.eqs rfl rfl rfl rfl eqt68 rfl rfl) ?_) | (refine AL.op rfl (OpOK.eqs rfl rfl rfl rfl eqt146 rfl rfl) ?_) | (refine AL.op rfl (OpOK.eqs rfl rfl rfl rfl eqt151 rfl rfl) ?_)) | fail | refine AW.seq ?_ | refine AW.region ?_ | refine Then.norm ?_ | refine AW.skip ?_ | refine AW.block ?_ | refine InB.norm ?_ | refine AW.condT rfl ?_ | refine AW.condF rfl ?_ | (refine AW.cond rfl (fun hc => ?_) (fun hc => ?_) <;> (try simp only [hsx] at hc) <;> (try first | (exfalso; omega) | contradiction | (exfalso; simp [dec_eq] at hc; done))) | refine AW.ret ?_ | refine AW.exit ?_ | refine Then.ret ?_ | refine Then.exit ?_ | refine InB.ret ?_ | refine InB.here ?_ | refine InB.off rfl ?_ | refine Rnd.ret ?_ | refine Rnd.exit ?_))
    all_goals first
      | (exfalso; omega)
      | (refine RQ.fin rfl rfl (congrArg bav ?_); rw [h3]; simp [dec_eq]; done)
/-- A deep copy is equal to what was copied, a flat one if that has no kids. -/
theorem cequal_c (f : List Node) (h : Int) (deep : Bool) (a : Ans) (x : Bool) (hf : Fit f) (hb : PureC Tryz.prog 15 [] (bav true)) (hc1 : PureC Tryz.prog 11 [fav f, iav h, bav deep] a.av) (h1 : a.why ≠ 0 → a.n = 0 ∧ a.g = []) (h2 : a.why = 0 → PureC Tryz.prog 18 [fav a.g, iav h, iav a.n] (.tup [bav x, iav 0]) ∧ inR f h ∧ x = (deep || decide ((nodeAt f h).kids.length = 0))) : PureC Tryz.prog 6 [fav f, iav h, bav deep] (bav true) := by
  have hl := hf.len
  by_cases hw : a.why = 0
  · obtain ⟨h3, h4, h5⟩ := h2 hw
    obtain ⟨h6, h7⟩ := h4
    have h8 : nodeAt f h = atI f (h - 1) := node_in ⟨h6, h7⟩
    rw [h8] at h5
    have hk := (hf.atI (h - 1) (by omega) (by omega)).kids
    cases deep
    all_goals
      refine PureC.mk tabs Tryz.func6 68 [.tmp 6] rfl rfl rfl rfl rfl ?_; intro w0 X
      (repeat' (first | ((with_reducible show AL _ _ _ _ _); first | (refine AL.step tabs rfl ?_; try dsimp only [len, List.nil_append, List.cons_append]) | refine AL.op rfl (OpOK.call rfl rfl rfl rfl hb rfl) ?_ | refine AL.op rfl (OpOK.call rfl rfl rfl rfl hc1 rfl) ?_ | refine AL.op rfl (OpOK.call rfl rfl rfl rfl h3 rfl) ?_ | refine AL.nil ?_ | (refine AL.gsplitE rfl rfl rfl (fun hc => ?_) (fun hc => ?_) <;> (fail_if_success (exact absurd hc (by decide))) <;> (try simp only [hsx] at hc) <;> (try first | (exfalso; omega) | contradiction | (exfalso; simp [dec_eq] at hc; done))) | (refine AL.op rfl (OpOK.ari64 rfl rfl rfl rfl rfl (by omega) (by omega)) ?_) | (refine AL.op rfl (OpOK.index_map tabs rfl rfl rfl rfl rfl rfl rfl (fun _ => rfl) (by decide) (by omega) (by omega)) ?_) | (refine AL.op rfl (OpOK.eqs rfl rfl rfl rfl eqt45 rfl rfl) ?_) | (refine AL.op rfl (OpOK.eqs rfl rfl rfl rfl eqt68 rfl rfl) ?_) | (refine AL.op rfl (OpOK.eqs rfl rfl rfl rfl eqt146 rfl rfl) ?_) | (refine AL.op rfl (OpOK.eqs rfl rfl rfl rfl eqt151 rfl rfl) ?_)) | refine AW.seq ?_ | refine AW.region ?_ | refine Then.norm ?_ | refine AW.skip ?_ | refine AW.block ?_ | refine InB.norm ?_ | refine AW.condT rfl ?_ | refine AW.condF rfl ?_ | (refine AW.cond rfl (fun hc => ?_) (fun hc => ?_) <;> (try simp only [hsx] at hc) <;> (try first | (exfalso; omega) | contradiction | (exfalso; simp [dec_eq] at hc; done))) | refine AW.ret ?_ | refine AW.exit ?_ | refine Then.ret ?_ | refine Then.exit ?_ | refine InB.ret ?_ | refine InB.here ?_ | refine InB.off rfl ?_ | refine Rnd.ret ?_ | refine Rnd.exit ?_))
      all_goals first
        | (exfalso; omega)
        | (refine RQ.fin rfl rfl (congrArg bav ?_); subst h5; simp [dec_dec]; done)
        | (refine RQ.fin rfl rfl (congrArg bav ?_); subst h5; simp [dec_dec]; omega)
  · obtain ⟨h3, h4⟩ := h1 hw
    refine PureC.mk tabs Tryz.func6 68 [.tmp 6] rfl rfl rfl rfl rfl ?_; intro w0 X
    (repeat' (first | ((with_reducible show AL _ _ _ _ _); first | (refine AL.step tabs rfl ?_; try dsimp only [len, List.nil_append, List.cons_append]) | refine AL.op rfl (OpOK.call rfl rfl rfl rfl hb rfl) ?_ | refine AL.op rfl (OpOK.call rfl rfl rfl rfl hc1 rfl) ?_ | refine AL.nil ?_ | (refine AL.gsplitE rfl rfl rfl (fun hc => ?_) (fun hc => ?_) <;> (fail_if_success (exact absurd hc (by decide))) <;> (try simp only [hsx] at hc) <;> (try first | (exfalso; omega) | contradiction | (exfalso; simp [dec_eq] at hc; done))) | (refine AL.op rfl (OpOK.ari64 rfl rfl rfl rfl rfl (by omega) (by omega)) ?_) | (refine AL.op rfl (OpOK.index_map tabs rfl rfl rfl rfl rfl rfl rfl (fun _ => rfl) (by decide) (by omega) (by omega)) ?_) | (refine AL.op rfl (OpOK.eqs rfl rfl rfl rfl eqt45 rfl rfl) ?_) | (refine AL.op rfl (OpOK.eqs rfl rfl rfl rfl eqt68 rfl rfl) ?_) | (refine AL.op rfl (OpOK.eqs rfl rfl rfl rfl eqt146 rfl rfl) ?_) | (refine AL.op rfl (OpOK.eqs rfl rfl rfl rfl eqt151 rfl rfl) ?_)) | fail | refine AW.seq ?_ | refine AW.region ?_ | refine Then.norm ?_ | refine AW.skip ?_ | refine AW.block ?_ | refine InB.norm ?_ | refine AW.condT rfl ?_ | refine AW.condF rfl ?_ | (refine AW.cond rfl (fun hc => ?_) (fun hc => ?_) <;> (try simp only [hsx] at hc) <;> (try first | (exfalso; omega) | contradiction | (exfalso; simp [dec_eq] at hc; done))) | refine AW.ret ?_ | refine AW.exit ?_ | refine Then.ret ?_ | refine Then.exit ?_ | refine InB.ret ?_ | refine InB.here ?_ | refine InB.off rfl ?_ | refine Rnd.ret ?_ | refine Rnd.exit ?_))
    all_goals first
      | (exfalso; omega)
      | (refine RQ.fin rfl rfl (congrArg bav ?_); simp [h3, h4, dec_dec]; done)
/-- What there was stays, and the copies hang together by themselves. -/
theorem apart_c (f : List Node) (doc h : Int) (deep : Bool) (a : Ans) (hf : Fit f) (hb : PureC Tryz.prog 15 [] (bav true)) (hc1 : PureC Tryz.prog 16 [fav f, iav doc, iav h, bav deep] a.av) (h1 : a.why ≠ 0 → a.n = 0) (h2 : a.why = 0 → Fit a.g ∧ f.length < a.g.length ∧ a.n = f.length + 1 ∧ (deep = false → (a.g.length : Int) = a.n) ∧ (∀ i : Int, 0 ≤ i → i < f.length → atI f i = atI a.g i) ∧ ∀ i : Int, f.length ≤ i → i < a.g.length → (atI a.g i).doc = doc ∧ (atI a.g i).shadow = 0 ∧ (i = f.length → (atI a.g i).parent = 0) ∧ (f.length < i → f.length < (atI a.g i).parent)) : PureC Tryz.prog 7 [fav f, iav doc, iav h, bav deep] (bav true) := by
  have hl := hf.len
  by_cases hw : a.why = 0
  · obtain ⟨hg, h3, h4, h5, h6, h7⟩ := h2 hw
    have hl2 := hg.len
    have hm : (List.map Node.iv f).length = f.length := List.length_map _
    have hm2 : (List.map Node.iv a.g).length = a.g.length := List.length_map _
    cases deep
    all_goals
      refine PureC.mk tabs Tryz.func7 118 [.tmp 8] rfl rfl rfl rfl rfl ?_; intro w0 X
      (repeat' (first | ((with_reducible show AL _ _ _ _ _); first | (refine AL.step tabs rfl ?_; try dsimp only [len, List.nil_append, List.cons_append]) | refine AL.op rfl (OpOK.call rfl rfl rfl rfl hb rfl) ?_ | refine AL.op rfl (OpOK.call rfl rfl rfl rfl hc1 rfl) ?_ | (refine AL.op rfl (OpOK.ari64 rfl rfl rfl rfl rfl (by omega) (by omega)) ?_) | refine AL.nil ?_ | (refine AL.gsplitE rfl rfl rfl (fun hc => ?_) (fun hc => ?_) <;> (fail_if_success (exact absurd hc (by decide))) <;> (try simp only [hsx] at hc) <;> (try first | (exfalso; omega) | contradiction | (exfalso; simp [dec_eq] at hc; done))) | (refine AL.op rfl (OpOK.ari64 rfl rfl rfl rfl rfl (by omega) (by omega)) ?_) | (refine AL.op rfl (OpOK.index_map tabs rfl rfl rfl rfl rfl rfl rfl (fun _ => rfl) (by decide) (by omega) (by omega)) ?_) | (refine AL.op rfl (OpOK.eqs rfl rfl rfl rfl eqt45 rfl rfl) ?_) | (refine AL.op rfl (OpOK.eqs rfl rfl rfl rfl eqt68 rfl rfl) ?_) | (refine AL.op rfl (OpOK.eqs rfl rfl rfl rfl eqt146 rfl rfl) ?_) | (refine AL.op rfl (OpOK.eqs rfl rfl rfl rfl eqt151 rfl rfl) ?_)) | ((with_reducible show DQ _ _ _ _ _ _); first | refine DQ.stepc (LS.val tabs rfl rfl rfl) rfl rfl rfl rfl rfl ?_ | refine DQ.stepc (LS.skip rfl rfl) rfl rfl rfl rfl rfl ?_ | refine DQ.nilM (by kernel_rfl) ?_ | refine DQ.stepc (LS.ari64 rfl rfl rfl rfl rfl rfl (by omega) (by omega)) rfl rfl rfl rfl rfl ?_ | refine DQ.stepc (LS.index_map tabs rfl rfl rfl rfl rfl rfl rfl rfl (fun _ => rfl) (by decide) (by omega) (by omega)) rfl rfl rfl rfl rfl ?_ | (refine DQ.gsplitE rfl rfl rfl (fun hc => ?_) (fun hc => ?_) <;> (fail_if_success (exact absurd hc (by decide))) <;> (try simp only [hsx] at hc) <;> (try first | (exfalso; omega) | contradiction | (exfalso; simp [dec_eq] at hc; done))) | refine DQ.stepc (LS.eqs rfl rfl rfl rfl rfl eqt45 rfl rfl) rfl rfl rfl rfl rfl ?_ | refine DQ.stepc (LS.eqs rfl rfl rfl rfl rfl eqt68 rfl rfl) rfl rfl rfl rfl rfl ?_ | refine DQ.stepc (LS.eqs rfl rfl rfl rfl rfl eqt146 rfl rfl) rfl rfl rfl rfl rfl ?_ | refine DQ.stepc (LS.eqs rfl rfl rfl rfl rfl eqt151 rfl rfl) rfl rfl rfl rfl rfl ?_) | refine AW.seq ?_ | refine AW.region ?_ | refine Then.norm ?_ | refine AW.skip ?_ | refine AW.block ?_ | refine InB.norm ?_ | refine AW.condT rfl ?_ | refine AW.condF rfl ?_ | (refine AW.cond rfl (fun hc => ?_) (fun hc => ?_) <;> (try simp only [hsx] at hc) <;> (try first | (exfalso; omega) | contradiction | (exfalso; simp [dec_eq] at hc; done))) | refine AW.ret ?_ | refine AW.exit ?_ | refine Then.ret ?_ | refine Then.exit ?_ | refine InB.ret ?_ | refine InB.here ?_ | refine InB.off rfl ?_ | refine Rnd.ret ?_ | refine Rnd.exit ?_ | refine AW.drawW mixed (by kernel_rfl) ?_))
      all_goals first
        | (exfalso; omega)
        | (exfalso; have h9 := h5 rfl; omega)
        | skip
      refine AW.loop (α := Int) (fun i => ⟨[(1, iav doc), (4, .ptr 0 1 0 0), (9, .ptr 1 1 0 0), (11, iav a.n), (13, iav i)], [⟨24, 1, [[.imm (.sl (f.map Node.iv))]]⟩, ⟨24, 1, [[.imm (.sl (a.g.map Node.iv))]]⟩]⟩) (fun i => 0 ≤ i ∧ i ≤ a.g.length) (fun i => (a.g.length - i).toNat) 0 (Le.cut 2 rfl (by repeat' (first | exact trivial | refine ⟨rfl, ?_⟩)) rfl rfl (Nat.zero_le _)) ⟨by omega, by omega⟩ ?_
      intro i ⟨k0, k1⟩
      have k2 := h6 i k0
      have k3 := fun hi => h7 i hi
      (repeat' (first | ((with_reducible show AL _ _ _ _ _); first | (refine AL.step tabs rfl ?_; try dsimp only [len, List.nil_append, List.cons_append]) | (refine AL.op rfl (OpOK.ari64 rfl rfl rfl rfl rfl (by omega) (by omega)) ?_) | refine AL.nil ?_ | (refine AL.gsplitE rfl rfl rfl (fun hc => ?_) (fun hc => ?_) <;> (fail_if_success (exact absurd hc (by decide))) <;> (try simp only [hsx] at hc) <;> (try first | (exfalso; omega) | contradiction | (exfalso; simp [dec_eq] at hc; done))) | (refine AL.op rfl (OpOK.ari64 rfl rfl rfl rfl rfl (by omega) (by omega)) ?_) | (refine AL.op rfl (OpOK.index_map tabs rfl rfl rfl rfl rfl rfl rfl (fun _ => rfl) (by decide) (by omega) (by omega)) ?_) | (refine AL.op rfl (OpOK.eqs rfl rfl rfl rfl eqt45 rfl rfl) ?_) | (refine AL.op rfl (OpOK.eqs rfl rfl rfl rfl eqt68 rfl rfl) ?_) | (refine AL.op rfl (OpOK.eqs rfl rfl rfl rfl eqt146 rfl rfl) ?_) | (refine AL.op rfl (OpOK.eqs rfl rfl rfl rfl eqt151 rfl rfl) ?_)) | ((with_reducible show DQ _ _ _ _ _ _); first | refine DQ.stepc (LS.call rfl rfl rfl rfl rfl (rSameNode_c (atI f i) (atI a.g i) (hf.atI i (by omega) (by omega))) rfl) rfl rfl rfl rfl rfl ?_ | refine DQ.stepc (LS.val tabs rfl rfl rfl) rfl rfl rfl rfl rfl ?_ | refine DQ.stepc (LS.skip rfl rfl) rfl rfl rfl rfl rfl ?_ | refine DQ.nilM (by kernel_rfl) ?_ | refine DQ.stepc (LS.ari64 rfl rfl rfl rfl rfl rfl (by omega) (by omega)) rfl rfl rfl rfl rfl ?_ | refine DQ.stepc (LS.index_map tabs rfl rfl rfl rfl rfl rfl rfl rfl (fun _ => rfl) (by decide) (by omega) (by omega)) rfl rfl rfl rfl rfl ?_ | (refine DQ.gsplitE rfl rfl rfl (fun hc => ?_) (fun hc => ?_) <;> (fail_if_success (exact absurd hc (by decide))) <;> (try simp only [hsx] at hc) <;> (try first | (exfalso; omega) | contradiction | (exfalso; simp [dec_eq] at hc; done))) | refine DQ.stepc (LS.eqs rfl rfl rfl rfl rfl eqt45 rfl rfl) rfl rfl rfl rfl rfl ?_ | refine DQ.stepc (LS.eqs rfl rfl rfl rfl rfl eqt68 rfl rfl) rfl rfl rfl rfl rfl ?_ | refine DQ.stepc (LS.eqs rfl rfl rfl rfl rfl eqt146 rfl rfl) rfl rfl rfl rfl rfl ?_ | refine DQ.stepc (LS.eqs rfl rfl rfl rfl rfl eqt151 rfl rfl) rfl rfl rfl rfl rfl ?_) | refine AW.seq ?_ | refine AW.region ?_ | refine Then.norm ?_ | refine AW.skip ?_ | refine AW.block ?_ | refine InB.norm ?_ | refine AW.condT rfl ?_ | refine AW.condF rfl ?_ | (refine AW.cond rfl (fun hc => ?_) (fun hc => ?_) <;> (try simp only [hsx] at hc) <;> (try first | (exfalso; omega) | contradiction | (exfalso; simp [dec_eq] at hc; done))) | refine AW.ret ?_ | refine AW.exit ?_ | refine Then.ret ?_ | refine Then.exit ?_ | refine InB.ret ?_ | refine InB.here ?_ | refine InB.off rfl ?_ | refine Rnd.ret ?_ | refine Rnd.exit ?_ | refine AW.drawW mixed (by kernel_rfl) ?_))
      all_goals first
        | (exfalso; exact hc (k2 (by omega)))
        | (exfalso; obtain ⟨a1, a2, a3, a4⟩ := k3 (by omega) (by omega); first | exact hc a1 | exact hc a2 | exact hc (a3 (by omega)) | (have := a4 (by omega); omega))
        | (refine Rnd.norm (i + 1) (Le.cut 2 rfl (by repeat' (first | exact trivial | refine ⟨rfl, ?_⟩)) rfl rfl (Nat.zero_le _)) ⟨by omega, by omega⟩ (by omega); done)
        | exact RQ.fin rfl rfl rfl
  · have h3 := h1 hw
    refine PureC.mk tabs Tryz.func7 118 [.tmp 8] rfl rfl rfl rfl rfl ?_; intro w0 X
    (repeat' (first | ((with_reducible show AL _ _ _ _ _); first | (refine AL.step tabs rfl ?_; try dsimp only [len, List.nil_append, List.cons_append]) | refine AL.op rfl (OpOK.call rfl rfl rfl rfl hb rfl) ?_ | refine AL.op rfl (OpOK.call rfl rfl rfl rfl hc1 rfl) ?_ | refine AL.nil ?_ | (refine AL.gsplitE rfl rfl rfl (fun hc => ?_) (fun hc => ?_) <;> (fail_if_success (exact absurd hc (by decide))) <;> (try simp only [hsx] at hc) <;> (try first | (exfalso; omega) | contradiction | (exfalso; simp [dec_eq] at hc; done))) | (refine AL.op rfl (OpOK.ari64 rfl rfl rfl rfl rfl (by omega) (by omega)) ?_) | (refine AL.op rfl (OpOK.index_map tabs rfl rfl rfl rfl rfl rfl rfl (fun _ => rfl) (by decide) (by omega) (by omega)) ?_) | (refine AL.op rfl (OpOK.eqs rfl rfl rfl rfl eqt45 rfl rfl) ?_) | (refine AL.op rfl (OpOK.eqs rfl rfl rfl rfl eqt68 rfl rfl) ?_) | (refine AL.op rfl (OpOK.eqs rfl rfl rfl rfl eqt146 rfl rfl) ?_) | (refine AL.op rfl (OpOK.eqs rfl rfl rfl rfl eqt151 rfl rfl) ?_)) | ((with_reducible show DQ _ _ _ _ _ _); first | refine DQ.stepc (LS.val tabs rfl rfl rfl) rfl rfl rfl rfl rfl ?_ | refine DQ.stepc (LS.skip rfl rfl) rfl rfl rfl rfl rfl ?_ | refine DQ.nilM (by kernel_rfl) ?_ | refine DQ.stepc (LS.ari64 rfl rfl rfl rfl rfl rfl (by omega) (by omega)) rfl rfl rfl rfl rfl ?_ | refine DQ.stepc (LS.index_map tabs rfl rfl rfl rfl rfl rfl rfl rfl (fun _ => rfl) (by decide) (by omega) (by omega)) rfl rfl rfl rfl rfl ?_ | (refine DQ.gsplitE rfl rfl rfl (fun hc => ?_) (fun hc => ?_) <;> (fail_if_success (exact absurd hc (by decide))) <;> (try simp only [hsx] at hc) <;> (try first | (exfalso; omega) | contradiction | (exfalso; simp [dec_eq] at hc; done))) | refine DQ.stepc (LS.eqs rfl rfl rfl rfl rfl eqt45 rfl rfl) rfl rfl rfl rfl rfl ?_ | refine DQ.stepc (LS.eqs rfl rfl rfl rfl rfl eqt68 rfl rfl) rfl rfl rfl rfl rfl ?_ | refine DQ.stepc (LS.eqs rfl rfl rfl rfl rfl eqt146 rfl rfl) rfl rfl rfl rfl rfl ?_ | refine DQ.stepc (LS.eqs rfl rfl rfl rfl rfl eqt151 rfl rfl) rfl rfl rfl rfl rfl ?_) | fail | refine AW.seq ?_ | refine AW.region ?_ | refine Then.norm ?_ | refine AW.skip ?_ | refine AW.block ?_ | refine InB.norm ?_ | refine AW.condT rfl ?_ | refine AW.condF rfl ?_ | (refine AW.cond rfl (fun hc => ?_) (fun hc => ?_) <;> (try simp only [hsx] at hc) <;> (try first | (exfalso; omega) | contradiction | (exfalso; simp [dec_eq] at hc; done))) | refine AW.ret ?_ | refine AW.exit ?_ | refine Then.ret ?_ | refine Then.exit ?_ | refine InB.ret ?_ | refine InB.here ?_ | refine InB.off rfl ?_ | refine Rnd.ret ?_ | refine Rnd.exit ?_ | refine AW.drawW mixed (by kernel_rfl) ?_))
    all_goals first
      | (exfalso; omega)
      | (refine RQ.fin rfl rfl (congrArg bav ?_); simp [h3, dec_dec]; done)
end Go.Proofs.YteijifoobaoclaaGreat.A
namespace Go.Proofs.YteijifoobaoclaaGreat.A
set_option linter.unusedVariables false
set_option linter.unusedSimpArgs false
set_option maxRecDepth 100000
set_option maxHeartbeats 4000000
def ChainP : List Node → List Change → List Node → Prop
  | f, [], g => f = g
  | f, c :: r, g => CpCh f c ∧ (doneC f c).2 = 0 ∧ ChainP (doneC f c).1 r g
theorem ChainP.app : ∀ {l m : List Change} {f g h : List Node}, ChainP f l g → ChainP g m h → ChainP f (l ++ m) h
  | [], m, f, g, h, h1, h2 => by
    have : f = g := h1
    subst this; exact h2
  | c :: r, m, f, g, h, h1, h2 => ⟨h1.1, h1.2.1, ChainP.app h1.2.2 h2⟩
theorem ChainP.chain : ∀ {l : List Change} {f g : List Node}, Fit f → rightP f → 0 < f.length → ChainP f l g → Chain f l g
  | [], f, g, _, _, _, h => h
  | c :: r, f, g, hf, hr, h0, h => by
    have h1 := doneC_c f c hf hr h0 h.1
    rw [h.2.1] at h1
    obtain ⟨a1, a2, a3, _⟩ := doneC_ok hf hr h.1 h.2.1
    exact ⟨_, h1, ChainP.chain a1 a2 (by omega) h.2.2⟩
theorem DoP.chain {p q : PS} {c : Change} {b : Bool} (h : DoP p c q b) (hq : q.why = 0) (hc : CpCh p.F c) : p.why = 0 ∧ ∃ M, q.L = p.L ++ M ∧ ChainP p.F M q.F := by
  rcases h.two with ⟨_, h2, _⟩ | ⟨_, h0, h1, _, h3, h4⟩
  · exact absurd hq h2
  · exact ⟨h0, [c], h4, hc, h1, h3.symm⟩
theorem OneP.chain {f : List Node} (hf : Fit f) (hr : rightP f) {deep : Bool} {p : PS} {h doc parent : Int} {q : PS} {x : Int} (H : OneP f deep p h doc parent q x) : (nodeAt f h).kind ≠ 12 → q.why = 0 → ∃ M, q.L = p.L ++ M ∧ ChainP p.F M q.F := by
  refine OneP.rec (motive_1 := fun p h doc parent q x _ => (nodeAt f h).kind ≠ 12 → q.why = 0 → ∃ M, q.L = p.L ++ M ∧ ChainP p.F M q.F) (motive_2 := fun p l doc x q _ => (∀ k ∈ l, (nodeAt f k).kind ≠ 12) → q.why = 0 → ∃ M, q.L = p.L ++ M ∧ ChainP p.F M q.F) ?_ ?_ ?_ H
  · intro p p1 p2 q h doc doc' parent x b1 hd9 hd hmk hx hi0 hi1 hk0 hk1 ih h12 hq
    have h2 : p2.why = 0 ∧ ∃ M, q.L = p2.L ++ M ∧ ChainP p2.F M q.F := by
      cases hdp : deep with
      | false => rw [hk0 hdp] at hq ⊢; exact ⟨hq, [], by simp, rfl⟩
      | true =>
        refine ⟨?_, ih hdp (fun k hk => (right_kinds hr hk).1) hq⟩
        by_cases h0 : p2.why = 0
        · exact h0
        · rw [(hk1 hdp).stuck h0] at hq; exact absurd hq h0
    obtain ⟨h2, M, e1, e2⟩ := h2
    have h3 : p1.why = 0 ∧ ∃ M, p2.L = p1.L ++ M ∧ ChainP p1.F M p2.F := by
      by_cases h0 : parent = 0
      · rw [hi0 h0] at h2 ⊢; exact ⟨h2, [], by simp, rfl⟩
      · obtain ⟨b2, hb⟩ := hi1 h0
        exact hb.chain h2 (.inr ⟨_, _, rfl⟩)
    obtain ⟨h3, M1, e3, e4⟩ := h3
    obtain ⟨_, M0, e5, e6⟩ := hmk.chain h3 (.inl ⟨_, copied_fit (hf.at h) _, h12, rfl⟩)
    exact ⟨M0 ++ (M1 ++ M), by rw [e1, e3, e5]; simp, e6.app (e4.app e2)⟩
  · intro p doc x _ _
    exact ⟨[], by simp, rfl⟩
  · intro p p1 q k r doc x y h1 h2 ih1 ih2 hkk hq
    have h3 : p1.why = 0 := by
      by_cases h0 : p1.why = 0
      · exact h0
      · rw [h2.stuck h0] at hq; exact absurd hq h0
    obtain ⟨M1, a1, a2⟩ := ih1 (hkk k (by simp)) h3
    obtain ⟨M2, b1, b2⟩ := ih2 (fun j hj => hkk j (by simp [hj])) hq
    exact ⟨M1 ++ M2, by rw [b1, a1]; simp, a2.app b2⟩
theorem atI_snoc {α : Type} [Inhabited α] (l : List α) (x : α) (i : Int) (h0 : 0 ≤ i) : atI (l ++ [x]) i = if i = l.length then x else atI l i := by
  unfold atI
  simp only [List.getD_eq_getElem?_getD]
  by_cases h : i = l.length
  · rw [if_pos h]
    subst h
    simp
  · rw [if_neg h]
    rcases Nat.lt_or_ge i.toNat l.length with h1 | h1
    · rw [List.getElem?_append_left h1]
    · rw [List.getElem?_eq_none (by simp; omega), List.getElem?_eq_none (by omega)]
theorem atI_ins (f : List Node) (x p : Int) (hx : inR f x) (hp : inR f p) (hne : x ≠ p) (i : Int) (h0 : 0 ≤ i) : atI (insF f x p) i = if i = p - 1 then { atI f (p - 1) with kids := (atI f (p - 1)).kids ++ [x] } else if i = x - 1 then { atI f (x - 1) with parent := p } else atI f i := by
  have hx1 := hx.1
  have hx2 := hx.2
  have hp1 := hp.1
  have hp2 := hp.2
  unfold insF
  rw [atI_upd _ _ _ (by omega) (by rw [upd_len]; omega) _ h0]
  by_cases e : i = x - 1
  · rw [if_pos e, if_neg (by omega), if_pos e, atI_upd _ _ _ (by omega) (by omega) _ (by omega), if_neg (by omega)]
  · rw [if_neg e, atI_upd _ _ _ (by omega) (by omega) _ h0, if_neg e]
/-- What the first two steps of a copy make. -/
theorem one_head {p p1 p2 : PS} {n : Node} {b1 : Bool} {x parent i : Int} (hn : n.parent = 0) (hmk : DoP p (mkCh (p.F.length + 1) n) p1 b1) (hx : x = mkX p b1) (hi0 : parent = 0 → p2 = p1) (hi1 : parent ≠ 0 → ∃ b2, DoP p1 (inCh x parent i) p2 b2) (h2 : p2.why = 0) (hp0 : 0 ≤ parent) (hp1 : parent ≤ p.F.length) :
    x = p.F.length + 1 ∧ (p2.F.length : Int) = p.F.length + 1 ∧ (∀ j : Int, 0 ≤ j → j < p.F.length → j + 1 ≠ parent → atI p2.F j = atI p.F j) ∧ (1 ≤ parent → atI p2.F (parent - 1) = { atI p.F (parent - 1) with kids := (atI p.F (parent - 1)).kids ++ [x] }) ∧ atI p2.F p.F.length = { n with parent := parent } := by
  have h1 : p1.why = 0 := by
    by_cases h0 : parent = 0
    · rw [← hi0 h0]; exact h2
    · obtain ⟨b2, hb⟩ := hi1 h0
      rcases hb.two with ⟨_, h, _⟩ | ⟨_, h, _⟩
      · exact absurd h2 h
      · exact h
  rcases hmk.two with ⟨_, h, _⟩ | ⟨rfl, a0, a1, _, a2, _⟩
  · exact absurd h1 h
  have hF : p1.F = p.F ++ [n] := by rw [a2, (doM_len a1).1]
  have hX : x = p.F.length + 1 := hx
  have hat : ∀ j : Int, 0 ≤ j → atI p1.F j = if j = p.F.length then n else atI p.F j := fun j hj => by rw [hF]; exact atI_snoc _ _ _ hj
  by_cases h0 : parent = 0
  · have e := hi0 h0
    subst e
    subst h0
    refine ⟨hX, by rw [hF]; simp, fun j j0 j1 _ => by rw [hat j j0, if_neg (by omega)], fun h => by omega, ?_⟩
    rw [hat _ (by omega), if_pos rfl]
    obtain ⟨⟩ := n
    simp only at hn
    rw [hn]
  · obtain ⟨b2, hb⟩ := hi1 h0
    rcases hb.two with ⟨_, h, _⟩ | ⟨_, _, c1, _, c2, _⟩
    · exact absurd h2 h
    obtain ⟨d1, d2, d3, _⟩ := doI_ins c1
    have hG : p2.F = insF p1.F x parent := by rw [c2, d1]
    have hlen : p2.F.length = p1.F.length := by rw [hG, insF_len]
    have hne : x ≠ parent := by omega
    refine ⟨hX, by rw [hlen, hF]; simp, fun j j0 j1 j2 => ?_, fun h => ?_, ?_⟩
    · rw [hG, atI_ins _ _ _ d2 d3 hne j j0, if_neg (by omega), if_neg (by omega), hat j j0, if_neg (by omega)]
    · rw [hG, atI_ins _ _ _ d2 d3 hne _ (by omega), if_pos rfl, hat _ (by omega), if_neg (by omega)]
    · rw [hG, atI_ins _ _ _ d2 d3 hne _ (by omega), if_neg (by omega), if_pos (by omega), hat _ (by omega), if_pos (by omega)]
structure SameF (n m : Node) : Prop where
  kind : n.kind = m.kind
  name : n.name = m.name
  pub : n.pub = m.pub
  sys : n.sys = m.sys
  data : n.data = m.data
  attrs : n.attrs = m.attrs
inductive CopyN (f g : List Node) : Int → Int → Prop
  | mk (h y : Int) (hs : SameF (nodeAt f h) (nodeAt g y)) (hl : (nodeAt f h).kids.length = (nodeAt g y).kids.length) (hk : ∀ j : Int, 0 ≤ j → j < (nodeAt f h).kids.length → CopyN f g (atI (nodeAt f h).kids j) (atI (nodeAt g y).kids j)) : CopyN f g h y
structure NewN (m : Node) (doc : Int) : Prop where
  shadow : m.shadow = 0
  doc : m.doc = doc
def Grown (f : List Node) (deep : Bool) (p : PS) (h doc parent : Int) (q : PS) (x : Int) : Prop :=
  x = p.F.length + 1 ∧ p.F.length < q.F.length ∧ (deep = false → (q.F.length : Int) = p.F.length + 1) ∧
  (∀ j : Int, 0 ≤ j → j < p.F.length → j + 1 ≠ parent → atI q.F j = atI p.F j) ∧
  (1 ≤ parent → atI q.F (parent - 1) = { atI p.F (parent - 1) with kids := (atI p.F (parent - 1)).kids ++ [x] }) ∧
  (atI q.F p.F.length).parent = parent ∧ (∀ j : Int, p.F.length < j → j < q.F.length → p.F.length < (atI q.F j).parent) ∧
  (∀ j : Int, p.F.length ≤ j → j < q.F.length → (atI q.F j).shadow = 0 ∧ ((nodeAt f h).kind ≠ 9 → (atI q.F j).doc = doc)) ∧
  (deep = true → ∀ g : List Node, q.F.length ≤ g.length → (∀ j : Int, p.F.length ≤ j → j < q.F.length → atI g j = atI q.F j) → CopyN f g h x) ∧
  (deep = false → SameF (nodeAt f h) (nodeAt q.F x) ∧ (nodeAt q.F x).kids = [])
def GrownK (f : List Node) (p : PS) (l : List Int) (doc x : Int) (q : PS) : Prop :=
  p.F.length ≤ q.F.length ∧ (∀ j : Int, 0 ≤ j → j < p.F.length → j + 1 ≠ x → atI q.F j = atI p.F j) ∧
  (∀ j : Int, p.F.length ≤ j → j < q.F.length → x ≤ (atI q.F j).parent ∧ (atI q.F j).shadow = 0 ∧ (atI q.F j).doc = doc) ∧
  ∃ ys : List Int, ys.length = l.length ∧ atI q.F (x - 1) = { atI p.F (x - 1) with kids := (atI p.F (x - 1)).kids ++ ys } ∧
    ∀ g : List Node, q.F.length ≤ g.length → (∀ j : Int, p.F.length ≤ j → j < q.F.length → atI g j = atI q.F j) → ∀ j : Int, 0 ≤ j → j < l.length → CopyN f g (atI l j) (atI ys j)
theorem atI_cons {α : Type} [Inhabited α] (a : α) (l : List α) (j : Int) (h : 1 ≤ j) : atI (a :: l) j = atI l (j - 1) := by
  unfold atI
  rw [show j.toNat = (j - 1).toNat + 1 by omega]
  rfl
theorem OneP.grown {f : List Node} (hr : rightP f) {deep : Bool} {p : PS} {h doc parent : Int} {q : PS} {x : Int} (H : OneP f deep p h doc parent q x) : q.why = 0 → 0 ≤ parent → parent ≤ p.F.length → Grown f deep p h doc parent q x := by
  refine OneP.rec (motive_1 := fun p h doc parent q x _ => q.why = 0 → 0 ≤ parent → parent ≤ p.F.length → Grown f deep p h doc parent q x) (motive_2 := fun p l doc x q _ => deep = true → (∀ k ∈ l, (nodeAt f k).kind ≠ 9) → q.why = 0 → 1 ≤ x → x ≤ p.F.length → GrownK f p l doc x q) ?_ ?_ ?_ H
  · intro p p1 p2 q h doc doc' parent x b1 hd9 hd hmk hx hi0 hi1 hk0 hk1 ih hq hp0 hp1
    have hnode : ∀ {g : List Node} (y : Int), inR g y → nodeAt g y = atI g (y - 1) := fun y hy => node_in hy
    cases hdp : deep with
    | false =>
      have e := hk0 hdp
      subst e
      obtain ⟨a1, a2, a3, a4, a5⟩ := one_head rfl hmk hx hi0 hi1 hq hp0 hp1
      have hxn : nodeAt q.F x = { copiedOf (nodeAt f h) doc' with parent := parent } := by
        rw [hnode x ⟨by omega, by omega⟩, show x - 1 = (p.F.length : Int) by omega, a5]
      refine ⟨a1, by omega, fun _ => a2, a3, a4, by rw [a5], fun j j1 j2 => by omega, fun j j1 j2 => ?_, fun h => (by cases h), fun _ => ?_⟩
      · rw [show j = (p.F.length : Int) by omega, a5]
        exact ⟨rfl, hd⟩
      · rw [hxn]
        exact ⟨⟨rfl, rfl, rfl, rfl, rfl, rfl⟩, rfl⟩
    | true =>
      have h2 : p2.why = 0 := by
        by_cases h0 : p2.why = 0
        · exact h0
        · rw [(hk1 hdp).stuck h0] at hq; exact absurd hq h0
      obtain ⟨a1, a2, a3, a4, a5⟩ := one_head rfl hmk hx hi0 hi1 h2 hp0 hp1
      obtain ⟨b1, b2, b3, ys, b4, b5, b6⟩ := ih hdp hdp (fun k hk => (right_kinds hr hk).2) hq (by omega) (by omega)
      have hx1 : x - 1 = (p.F.length : Int) := by omega
      have b5' : atI q.F p.F.length = { copiedOf (nodeAt f h) doc' with parent := parent, kids := ys } := by
        rw [← hx1, b5, hx1, a5]
        rfl
      refine ⟨a1, by omega, fun h => (by cases h), fun j j0 j1 j2 => ?_, fun h1 => ?_, by rw [b5'], fun j j1 j2 => ?_, fun j j1 j2 => ?_, fun _ g hg hag => ?_, fun h => (by cases h)⟩
      · rw [b2 j j0 (by omega) (by omega), a3 j j0 j1 j2]
      · rw [b2 _ (by omega) (by omega) (by omega), a4 h1]
      · have := (b3 j (by omega) j2).1
        omega
      · by_cases e : j = p.F.length
        · rw [e, b5']
          exact ⟨rfl, hd⟩
        · obtain ⟨c1, c2, c3⟩ := b3 j (by omega) j2
          exact ⟨c2, fun h9 => by rw [c3]; exact hd h9⟩
      · have hgx : nodeAt g x = { copiedOf (nodeAt f h) doc' with parent := parent, kids := ys } := by
          rw [hnode x ⟨by omega, by omega⟩, hx1, hag _ (by omega) (by omega), b5']
        refine .mk h x ?_ ?_ ?_
        · rw [hgx]; exact ⟨rfl, rfl, rfl, rfl, rfl, rfl⟩
        · rw [hgx]; exact b4.symm
        · intro j j0 j1
          rw [hgx]
          exact b6 g hg (fun i i0 i1 => hag i (by omega) i1) j j0 j1
  · intro p doc x hdp _ _ hx1 hx2
    refine ⟨Nat.le_refl _, fun j _ _ _ => rfl, fun j j1 j2 => by omega, [], rfl, by simp, fun g _ _ j j0 j1 => ?_⟩
    simp at j1
    omega
  · intro p p1 q k r doc x y h1 h2 ih1 ih2 hdp hkk hq hx1 hx2
    have h3 : p1.why = 0 := by
      by_cases h0 : p1.why = 0
      · exact h0
      · rw [h2.stuck h0] at hq; exact absurd hq h0
    obtain ⟨a1, a2, _, a3, a4, a5, a6, a7, a8, _⟩ := ih1 h3 (by omega) hx2
    obtain ⟨b1, b2, b3, ys, b4, b5, b6⟩ := ih2 hdp (fun j hj => hkk j (by simp [hj])) hq hx1 (by omega)
    have hold : ∀ j : Int, p.F.length ≤ j → j < p1.F.length → atI q.F j = atI p1.F j := fun j j1 j2 => b2 j (by omega) j2 (by omega)
    refine ⟨by omega, fun j j0 j1 j2 => by rw [b2 j j0 (by omega) j2, a3 j j0 j1 j2], fun j j1 j2 => ?_, y :: ys, by simp [b4], ?_, fun g hg hag j j0 j1 => ?_⟩
    · by_cases e : j < p1.F.length
      · rw [hold j j1 e]
        obtain ⟨c1, c2⟩ := a7 j j1 e
        refine ⟨?_, c1, c2 (hkk k (by simp))⟩
        by_cases e2 : j = p.F.length
        · rw [e2, a5]; exact Int.le_refl _
        · have := a6 j (by omega) e
          omega
      · exact b3 j (by omega) j2
    · rw [b5, a4 hx1]
      simp
    · by_cases e : j = 0
      · subst e
        exact a8 hdp g (by omega) (fun i i0 i1 => by rw [hag i i0 (by omega), hold i i0 i1])
      · rw [atI_cons _ _ _ (by omega), atI_cons _ _ _ (by omega)]
        exact b6 g hg (fun i i0 i1 => hag i (by omega) i1) (j - 1) (by omega) (by simp at j1; omega)
end Go.Proofs.YteijifoobaoclaaGreat.A
namespace Go.Proofs.YteijifoobaoclaaGreat.A
set_option linter.unusedVariables false
set_option linter.unusedSimpArgs false
set_option maxRecDepth 100000
set_option maxHeartbeats 4000000
theorem fitNil : Fit [] := ⟨by simp, fun n h => by cases h⟩
theorem changes_all (f : List Node) (h : Int) (deep : Bool) (hf : Fit f) : PureC Tryz.prog 9 [fav f, iav h, bav deep] (bav true) := by
  obtain ⟨a, ha, hc⟩ := clone_all f h deep hf
  cases ha with
  | no w hw hff => exact changes_c f h deep _ [] 0 0 begins_true hc (fun _ => rfl) fitNil (fun e => absurd e hw)
  | shadow hff hk => exact changes_c f h deep _ [] 0 0 begins_true hc (fun _ => rfl) fitNil (fun e => by cases e)
  | go hff hk q x ho hi =>
    by_cases hw : q.why = 0
    · obtain ⟨hr, hl⟩ := fault_zero hff
      simp only [List.all_cons, List.all_nil, Bool.and_true] at hl
      obtain ⟨M, h1, h2⟩ := ho.chain hf hr hk hw
      have h1 : q.L = M := h1
      subst h1
      have e : ansOf q x = ⟨q.F, q.L, x, 0⟩ := if_pos hw
      rw [e] at hc
      by_cases hm : 4096 < q.L.length
      · exact changes_c f h deep _ [] 0 3 begins_true hc (fun h => absurd rfl h) fitNil (fun _ => ⟨allMany_c f q.L hf hr hm, fun h => by simp only at h; omega⟩)
      · exact changes_c f h deep _ q.F q.L.length 0 begins_true hc (fun h => absurd rfl h) hi.fit (fun _ => ⟨all_c f q.F q.L hf hr (in_pos hl).2 (by omega) (h2.chain hf hr (in_pos hl).2), fun _ => ⟨rfl, rfl, rfl⟩⟩)
    · have e : ansOf q x = ansNo 3 := if_neg hw
      rw [e] at hc
      exact changes_c f h deep _ [] 0 0 begins_true hc (fun _ => rfl) fitNil (fun e => by cases e)
theorem cmp_same (k : Int) {n m : Node} (h : SameF n m) : cmpP k n m :=
  ⟨fun _ => ⟨h.name, h.pub, h.sys⟩, fun _ _ => ⟨h.name, by rw [h.attrs], fun x hx => ⟨x, by rw [← h.attrs]; exact hx, rfl, rfl, rfl⟩⟩, fun _ _ _ => ⟨h.name, h.data⟩⟩
theorem eqn_copy {f g : List Node} (hr : rightP f) (hag : ∀ a, inR f a → nodeAt g a = nodeAt f a) {h y : Int} (H : CopyN f g h y) : inR f h → EqN g h y := by
  induction H with
  | mk h y hs hl hk ih =>
    intro hh
    have e := hag h hh
    refine .mk h y ⟨by rw [e]; exact hs.kind, by rw [e]; exact cmp_same _ hs⟩ (by rw [e]; exact hl) fun j j0 j1 => ?_
    rw [e] at j1 ⊢
    exact ih j j0 j1 (right_kid hr hh (atI_mem j0 j1)).1
theorem cequal_all (f : List Node) (h : Int) (deep : Bool) (hf : Fit f) : PureC Tryz.prog 6 [fav f, iav h, bav deep] (bav true) := by
  obtain ⟨a, ha, hc⟩ := clone_all f h deep hf
  cases ha with
  | no w hw hff => exact cequal_c f h deep _ true hf begins_true hc (fun _ => ⟨rfl, rfl⟩) (fun e => absurd e hw)
  | shadow hff hk => exact cequal_c f h deep _ true hf begins_true hc (fun _ => ⟨rfl, rfl⟩) (fun e => by cases e)
  | go hff hk q x ho hi =>
    by_cases hw : q.why = 0
    · obtain ⟨hr, hl⟩ := fault_zero hff
      simp only [List.all_cons, List.all_nil, Bool.and_true] at hl
      have hh := (in_pos hl).1
      have hh1 := hh.1
      have hh2 := hh.2
      obtain ⟨g1, g2, g3, g4, _, _, _, _, g8, g9⟩ := ho.grown hr hw (Int.le_refl _) (by simp)
      simp only at g1 g2 g3 g4 g8
      have e : ansOf q x = ⟨q.F, q.L, x, 0⟩ := if_pos hw
      rw [e] at hc
      have hag : ∀ a, inR f a → nodeAt q.F a = nodeAt f a := fun a ha => by
        have a1 := ha.1
        have a2 := ha.2
        rw [node_in ha, node_in (f := q.F) ⟨by omega, by omega⟩, g4 _ (by omega) (by omega) (by omega)]
      have heq : dec (EqN q.F h x) = (deep || decide ((nodeAt f h).kids.length = 0)) := by
        cases hd : deep with
        | true =>
          rw [dec_pos (eqn_copy hr hag (g8 hd q.F (Nat.le_refl _) fun _ _ _ => rfl) hh)]
          rfl
        | false =>
          obtain ⟨s1, s2⟩ := g9 hd
          by_cases hk0 : (nodeAt f h).kids.length = 0
          · rw [dec_pos (.mk h x ⟨by rw [hag h hh]; exact s1.kind, by rw [hag h hh]; exact cmp_same _ s1⟩ (by rw [hag h hh, s2, hk0]; rfl) fun j j0 j1 => by rw [hag h hh] at j1; omega)]
            simp [hk0]
          · rw [dec_neg (p := EqN q.F h x) (fun h => by
              cases h with
              | mk _ _ _ hl' _ => rw [hag h hh, s2] at hl'; exact hk0 hl')]
            simp [hk0]
      have h32 := equal_all q.F hi.fit hi.right h x
      rw [heq] at h32
      exact cequal_c f h deep _ _ hf begins_true hc (fun h => absurd rfl h) (fun _ => ⟨equal_c q.F h x _ hi.fit h32 (fault0 hi.right (by
        simp only [List.all_cons, List.all_nil, Bool.and_true, Bool.and_eq_true, inB, decide_eq_true_eq]
        omega)), hh, rfl⟩)
    · have e : ansOf q x = ansNo 3 := if_neg hw
      rw [e] at hc
      exact cequal_c f h deep _ true hf begins_true hc (fun _ => ⟨rfl, rfl⟩) (fun e => by cases e)
theorem apart_all (f : List Node) (doc h : Int) (deep : Bool) (hf : Fit f) : PureC Tryz.prog 7 [fav f, iav doc, iav h, bav deep] (bav true) := by
  obtain ⟨a, ha, hc⟩ := import_all f doc h deep hf
  cases ha with
  | no w hw hff => exact apart_c f doc h deep _ hf begins_true hc (fun _ => rfl) (fun e => absurd e hw)
  | type hff hk => exact apart_c f doc h deep _ hf begins_true hc (fun _ => rfl) (fun e => by cases e)
  | un hff hk hh => exact apart_c f doc h deep _ hf begins_true hc (fun _ => rfl) (fun e => by cases e)
  | go hff hk hh hh2 q x ho hi =>
    by_cases hw : q.why = 0
    · obtain ⟨hr, hl⟩ := fault_zero hff
      obtain ⟨g1, g2, g3, g4, _, g5, g6, g7, _, _⟩ := ho.grown hr hw (Int.le_refl _) (by simp)
      simp only at g1 g2 g3 g4 g5 g6 g7
      have e : ansOf q x = ⟨q.F, q.L, x, 0⟩ := if_pos hw
      rw [e] at hc
      refine apart_c f doc h deep _ hf begins_true hc (fun h => absurd rfl h) (fun _ => ⟨hi.fit, g2, g1, fun hd => by rw [g3 hd, g1], fun i i0 i1 => (g4 i i0 i1 (by omega)).symm, fun i i0 i1 => ?_⟩)
      obtain ⟨k1, k2⟩ := g7 i i0 i1
      exact ⟨k2 hh, k1, fun e => by rw [e]; exact g5, fun e => g6 i e i1⟩
    · have e : ansOf q x = ansNo 3 := if_neg hw
      rw [e] at hc
      exact apart_c f doc h deep _ hf begins_true hc (fun _ => rfl) (fun e => by cases e)
end Go.Proofs.YteijifoobaoclaaGreat.A
