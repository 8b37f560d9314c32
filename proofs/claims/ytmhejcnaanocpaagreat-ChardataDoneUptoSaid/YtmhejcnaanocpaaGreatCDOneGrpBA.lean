/- Contracts: canopyref01.Compare, Same; canopyref03.New, the law's text. -/
import Derived.Test.YtmhejcnaanocpaaGreatCDOneGrpAX
import Derived.Test.YtmhejcnaanocpaaGreatCDOneGrpAZ
import Derived.Test.YtmhejcnaanocpaaGreatCDOneGrpAW
import Derived.Test.YtmhejcnaanocpaaGreatCDOneGrpAJ
namespace Go.Proofs.YtmhejcnaanocpaaGreat.A
set_option linter.unusedVariables false
set_option linter.unusedSimpArgs false
set_option maxRecDepth 100000
set_option maxHeartbeats 4000000
def cmpGo : List Int → List Int → Int
  | [], [] => 0
  | [], _ :: _ => -1
  | _ :: _, [] => 1
  | a :: u, b :: v => if a < b then -1 else if b < a then 1 else cmpGo u v
theorem cmp_zero : ∀ u v : List Int, cmpGo u v = 0 ↔ u = v
  | [], [] => by simp [cmpGo]
  | [], _ :: _ => by simp [cmpGo]
  | _ :: _, [] => by simp [cmpGo]
  | a :: u, b :: v => by
    unfold cmpGo
    by_cases h1 : a < b
    · rw [if_pos h1]
      constructor
      · intro h; omega
      · intro h; injection h with h2 h3; omega
    · rw [if_neg h1]
      by_cases h2 : b < a
      · rw [if_pos h2]
        constructor
        · intro h; omega
        · intro h; injection h with h2 h3; omega
      · rw [if_neg h2, cmp_zero u v]
        have : a = b := by omega
        subst this
        simp
theorem cmp_next (u v : List Int) {i : Int} (h0 : 0 ≤ i) (h1 : i < u.length) (h2 : i < v.length) : cmpGo (u.drop i.toNat) (v.drop i.toNat) = if atI u i < atI v i then -1 else if atI v i < atI u i then 1 else cmpGo (u.drop (i + 1).toNat) (v.drop (i + 1).toNat) := by
  rw [drop_next h0 h1, drop_next h0 h2]
  rfl
theorem cmp_l (u v : List Int) {i : Int} (h0 : 0 ≤ i) (h1 : u.length ≤ i) (h2 : i < v.length) : cmpGo (u.drop i.toNat) (v.drop i.toNat) = -1 := by
  rw [List.drop_eq_nil_of_le (by omega), drop_next h0 h2]
  rfl
theorem cmp_r (u v : List Int) {i : Int} (h0 : 0 ≤ i) (h1 : i < u.length) (h2 : v.length ≤ i) : cmpGo (u.drop i.toNat) (v.drop i.toNat) = 1 := by
  rw [show v.drop i.toNat = [] from List.drop_eq_nil_of_le (by omega), drop_next h0 h1]
  rfl
theorem cmp_e (u v : List Int) {i : Int} (h0 : 0 ≤ i) (h1 : u.length ≤ i) (h2 : v.length ≤ i) : cmpGo (u.drop i.toNat) (v.drop i.toNat) = 0 := by
  rw [show v.drop i.toNat = [] from List.drop_eq_nil_of_le (by omega), show u.drop i.toNat = [] from List.drop_eq_nil_of_le (by omega)]
  rfl
theorem compare_c (u v : List Int) (hu : u.length ≤ 1000000000) (hv : v.length ≤ 1000000000) : PureC Tryz.prog 58 [.imm (.sl (u.map u16)), .imm (.sl (v.map u16))] (iav (cmpGo u v)) := by
  have hmu : (u.map u16).length = u.length := List.length_map _
  have hmv : (v.map u16).length = v.length := List.length_map _
  refine PureC.mk tabs Tryz.func58 48 [.tmp 4] rfl rfl rfl rfl rfl ?_; intro w0 X
  (repeat' (first | ((with_reducible show AL _ _ _ _ _); first | (refine AL.step tabs rfl ?_; try dsimp only [len, List.nil_append, List.cons_append]) | refine AL.nil ?_ | (refine AL.gsplitE rfl rfl rfl (fun hc => ?_) (fun hc => ?_) <;> (fail_if_success (exact absurd hc (by decide))) <;> (try simp only [hsx] at hc) <;> (try first | (exfalso; omega) | contradiction | (exfalso; simp [dec_eq] at hc; done))) | (refine AL.op rfl (OpOK.ari64 rfl rfl rfl rfl rfl (by omega) (by omega)) ?_) | (refine AL.op rfl (OpOK.index_map tabs rfl rfl rfl rfl rfl rfl rfl (fun _ => rfl) (by decide) (by omega) (by omega)) ?_)) | ((with_reducible show DQ _ _ _ _ _ _); first | refine DQ.stepc (LS.val tabs rfl rfl rfl) rfl rfl rfl rfl rfl ?_ | refine DQ.stepc (LS.skip rfl rfl) rfl rfl rfl rfl rfl ?_ | refine DQ.nilM (by kernel_rfl) ?_ | refine DQ.stepc (LS.ari64 rfl rfl rfl rfl rfl rfl (by omega) (by omega)) rfl rfl rfl rfl rfl ?_ | refine DQ.stepc (LS.index_map tabs rfl rfl rfl rfl rfl rfl rfl rfl (fun _ => rfl) (by decide) (by omega) (by omega)) rfl rfl rfl rfl rfl ?_ | (refine DQ.gsplitE rfl rfl rfl (fun hc => ?_) (fun hc => ?_) <;> (fail_if_success (exact absurd hc (by decide))) <;> (try simp only [hsx] at hc) <;> (try first | (exfalso; omega) | contradiction | (exfalso; simp [dec_eq] at hc; done)))) | fail | refine AW.seq ?_ | refine AW.region ?_ | refine Then.norm ?_ | refine AW.skip ?_ | refine AW.block ?_ | refine InB.norm ?_ | refine AW.condT rfl ?_ | refine AW.condF rfl ?_ | (refine AW.cond rfl (fun hc => ?_) (fun hc => ?_) <;> (try simp only [hsx] at hc) <;> (try first | (exfalso; omega) | contradiction | (exfalso; simp [dec_eq] at hc; done))) | refine AW.ret ?_ | refine AW.exit ?_ | refine Then.ret ?_ | refine Then.exit ?_ | refine InB.ret ?_ | refine InB.here ?_ | refine InB.off rfl ?_ | refine Rnd.ret ?_ | refine Rnd.exit ?_ | refine AW.drawW mixed (by kernel_rfl) ?_))
  refine AW.loop (α := Int) (fun i => ⟨[(0, .imm (.sl (u.map u16))), (1, .imm (.sl (v.map u16))), (5, iav i)], []⟩) (fun i => 0 ≤ i ∧ i ≤ u.length ∧ i ≤ v.length ∧ cmpGo (u.drop i.toNat) (v.drop i.toNat) = cmpGo u v) (fun i => (u.length - i).toNat) 0 (Le.cut 0 rfl (by repeat' (first | exact trivial | refine ⟨rfl, ?_⟩)) rfl rfl (Nat.zero_le _)) ⟨by omega, by omega, by omega, rfl⟩ ?_
  intro i ⟨h0, h1, h2, h3⟩
  (repeat' (first | ((with_reducible show AL _ _ _ _ _); first | (refine AL.step tabs rfl ?_; try dsimp only [len, List.nil_append, List.cons_append]) | refine AL.nil ?_ | (refine AL.gsplitE rfl rfl rfl (fun hc => ?_) (fun hc => ?_) <;> (fail_if_success (exact absurd hc (by decide))) <;> (try simp only [hsx] at hc) <;> (try first | (exfalso; omega) | contradiction | (exfalso; simp [dec_eq] at hc; done))) | (refine AL.op rfl (OpOK.ari64 rfl rfl rfl rfl rfl (by omega) (by omega)) ?_) | (refine AL.op rfl (OpOK.index_map tabs rfl rfl rfl rfl rfl rfl rfl (fun _ => rfl) (by decide) (by omega) (by omega)) ?_)) | ((with_reducible show DQ _ _ _ _ _ _); first | refine DQ.stepc (LS.val tabs rfl rfl rfl) rfl rfl rfl rfl rfl ?_ | refine DQ.stepc (LS.skip rfl rfl) rfl rfl rfl rfl rfl ?_ | refine DQ.nilM (by kernel_rfl) ?_ | refine DQ.stepc (LS.ari64 rfl rfl rfl rfl rfl rfl (by omega) (by omega)) rfl rfl rfl rfl rfl ?_ | refine DQ.stepc (LS.index_map tabs rfl rfl rfl rfl rfl rfl rfl rfl (fun _ => rfl) (by decide) (by omega) (by omega)) rfl rfl rfl rfl rfl ?_ | (refine DQ.gsplitE rfl rfl rfl (fun hc => ?_) (fun hc => ?_) <;> (fail_if_success (exact absurd hc (by decide))) <;> (try simp only [hsx] at hc) <;> (try first | (exfalso; omega) | contradiction | (exfalso; simp [dec_eq] at hc; done)))) | refine AW.seq ?_ | refine AW.region ?_ | refine Then.norm ?_ | refine AW.skip ?_ | refine AW.block ?_ | refine InB.norm ?_ | refine AW.condT rfl ?_ | refine AW.condF rfl ?_ | (refine AW.cond rfl (fun hc => ?_) (fun hc => ?_) <;> (try simp only [hsx] at hc) <;> (try first | (exfalso; omega) | contradiction | (exfalso; simp [dec_eq] at hc; done))) | refine AW.ret ?_ | refine AW.exit ?_ | refine Then.ret ?_ | refine Then.exit ?_ | refine InB.ret ?_ | refine InB.here ?_ | refine InB.off rfl ?_ | refine Rnd.ret ?_ | refine Rnd.exit ?_ | refine AW.drawW mixed (by kernel_rfl) ?_))
  · rw [cmp_next u v h0 (by assumption) (by assumption), if_pos hc] at h3
    rw [← h3]
    exact RQ.fin rfl rfl rfl
  · rw [cmp_next u v h0 (by assumption) (by assumption), if_neg (by omega), if_pos hc] at h3
    rw [← h3]
    exact RQ.fin rfl rfl rfl
  · rw [cmp_next u v h0 (by assumption) (by assumption), if_neg (by omega), if_neg (by omega)] at h3
    exact Rnd.norm (i + 1) (Le.cut 0 rfl (by repeat' (first | exact trivial | refine ⟨rfl, ?_⟩)) rfl rfl (Nat.zero_le _)) ⟨by omega, by omega, by omega, h3⟩ (by omega)
  · rw [cmp_r u v h0 (by assumption) (by assumption)] at h3
    rw [← h3]
    exact RQ.fin rfl rfl rfl
  · rw [cmp_l u v h0 (by assumption) (by omega)] at h3
    rw [← h3]
    exact RQ.fin rfl rfl rfl
  · rw [cmp_e u v h0 (by omega) (by omega)] at h3
    rw [← h3]
    exact RQ.fin rfl rfl rfl
theorem same_c (u v : List Int) (hu : u.length ≤ 1000000000) (hv : v.length ≤ 1000000000) : PureC Tryz.prog 17 [.imm (.sl (u.map u16)), .imm (.sl (v.map u16))] (bav (dec (u = v))) := by
  have c1 := compare_c u v hu hv
  rw [show dec (u = v) = dec (cmpGo u v = 0) by rw [Bool.eq_iff_iff, dec_true, dec_true]; exact (cmp_zero u v).symm]
  refine PureC.mk tabs Tryz.func17 9 [.tmp 4] rfl rfl rfl rfl rfl ?_; intro w0 X
  (repeat' (first | ((with_reducible show AL _ _ _ _ _); first | (refine AL.step tabs rfl ?_; try dsimp only [len, List.nil_append, List.cons_append]) | refine AL.op rfl (OpOK.call rfl rfl rfl rfl c1 rfl) ?_ | refine AL.nil ?_) | refine AW.seq ?_ | refine AW.region ?_ | refine Then.norm ?_ | refine AW.skip ?_ | refine AW.ret ?_ | refine Then.ret ?_))
  exact RQ.fin rfl rfl rfl
def docN : Node := { n0 with kind := 9, doc := 1, html := true }
def rawD : List AV := [kav 9, sav es, sav es, sav es, sav es, sav es, .nils, .nils, iav 0, .nils, iav 1, iav 0, iav 0, kav 0, bav false, bav true]
def rawP (k : AV) : List AV := [kav 1, sav es, sav es, sav ⟨#[112]⟩, sav es, sav es, .nils, .nils, iav 0, k, iav 1, iav 0, iav 0, kav 0, bav false, bav false]
def rawX (s : List Int) : List AV := [kav 3, sav es, sav es, sav es, sav es, sav es, .imm (.sl (s.map u16)), .nils, iav 2, .nils, iav 1, iav 0, iav 0, kav 0, bav false, bav false]
theorem new_c : GenC Tryz.prog 91 [] [bav true] (.agg [.os 1 1]) [⟨24, 1, [[.os 1 1]]⟩, ⟨44, 16, [rawD]⟩] := by
  refine GenC.mk tabs Tryz.func91 7 [.cell 2 24] rfl rfl rfl rfl rfl ?_; intro w0 X γ κ
  (repeat' (first | ((with_reducible show AL _ _ _ _ _); first | (refine AL.step tabs rfl ?_; try dsimp only [len, List.nil_append, List.cons_append]) | refine AL.nil ?_) | refine AW.seq ?_ | refine AW.region ?_ | refine Then.norm ?_ | refine AW.skip ?_ | refine AW.ret ?_ | refine Then.ret ?_))
  exact RG.ret 2 rfl rfl rfl rfl rfl (by simp [cxG])
def pN : Node := { n0 with kind := 1, name := ⟨es, es, ⟨#[112]⟩⟩, doc := 1, kids := [3] }
def tN (s : List Int) : Node := { n0 with kind := 3, doc := 1, parent := 2, data := s }
def textF (s : List Int) : List Node := [docN, pN, tN s]
theorem text0_c (s : List Int) : PureC Tryz.prog 56 [.imm (.sl (s.map u16))] (fav (textF s)) := by
  have hr : ∀ r ∈ [rawP (.os 4 1), rawX s], r.length = 16 := by
    intro r hr
    rcases List.mem_cons.1 hr with e | hr
    · rw [e]; rfl
    · rw [List.mem_singleton.1 hr]; rfl
  have hc : ∀ c ∈ [rawP (.os 4 1), rawX s].flatten, c.cell = true := by
    have : [rawP (.os 4 1), rawX s].flatten.all AV.cell = true := rfl
    rw [List.all_eq_true] at this
    exact this
  refine PureC.mk tabs Tryz.func56 16 [.cell 2 24] rfl rfl rfl rfl rfl ?_; intro w0 X
  (repeat' (first | ((with_reducible show AL _ _ _ _ _); first | (refine AL.step tabs rfl ?_; try dsimp only [len, List.nil_append, List.cons_append]) | refine AL.callG [] 1 rfl rfl rfl rfl rfl (caps := []) rfl new_c rfl rfl rfl rfl rfl rfl rfl rfl (hpA := [⟨24, 1, [[.os 2 1]]⟩, ⟨44, 16, [rawD]⟩]) rfl (r' := .agg [.os 2 1]) rfl rfl ?_; try dsimp only [setAll, List.drop_succ_cons, List.drop_zero, List.drop_nil, List.set_cons_succ, List.set_cons_zero, List.cons_append, List.nil_append, List.append_nil, len, Nat.reduceAdd] | refine AL.ope rfl (OpOK.append_os (ie := ti44) (b := ⟨44, 16, [rawD]⟩) (rows2 := [rawP (.os 4 1), rawX s]) tabs rfl rfl rfl rfl rfl rfl rfl rfl rfl rfl (SrcA.own tabs rfl rfl rfl (b := ⟨44, 16, [rawP (.os 4 1), rawX s]⟩) rfl rfl rfl hr hc) (by simp [ti44]) (by simp)) rfl ?_ | refine AL.nil ?_) | refine AW.seq ?_ | refine AW.region ?_ | refine Then.norm ?_ | refine AW.skip ?_ | refine AW.ret ?_ | refine Then.ret ?_))
  refine RQ.ret rfl (Fz.agg (.cons (Fz.osN (b := ⟨44, 16, [rawD, rawP (.os 4 1), rawX s]⟩) (rows := (textF s).map Node.iv) (hb := rfl) (hver := ?_) (hlen := ?_) (hrl := ?_) (hr := ?_)) .nil))
  · rfl
  · rfl
  · intro r hr
    obtain ⟨n, _, rfl⟩ := List.mem_map.1 hr
    rfl
  repeat' (first | exact All2.nil | refine All2.cons ?_ ?_)
  all_goals first
    | exact FzI.imm _
    | exact FzI.of (Fz.cv rfl)
    | (refine FzI.of (Fz.os (hb := rfl) (hver := ?_) (hr := ?_)) <;> rfl)
end Go.Proofs.YtmhejcnaanocpaaGreat.A
namespace Go.Proofs.YtmhejcnaanocpaaGreat.A
set_option linter.unusedVariables false
set_option linter.unusedSimpArgs false
set_option maxRecDepth 100000
set_option maxHeartbeats 4000000
theorem dec_dec (p : Prop) [Decidable p] : dec p = decide p := dec_eq p
/-- rightP, node by node. -/
theorem right_of {f : List Node} (h : f.length ≤ 4096) (h2 : ∀ j : Nat, j < f.length → okP f (j : Int) (atI f j)) : rightP f := ⟨h, fun i h0 h1 => by
  have := h2 i.toNat (by omega)
  rw [show ((i.toNat : Nat) : Int) = i by omega] at this
  exact this⟩
theorem sz0 : (⟨#[]⟩ : ByteArray).size = 0 := rfl
theorem szp : (⟨#[112]⟩ : ByteArray).size = 1 := rfl
def p2 (ks : List Int) : Node := { pN with kids := ks }
def xN (r : List Int) (p : Int) : Node := { n0 with kind := 3, doc := 1, parent := p, data := r }
def text4 (s r : List Int) (ks : List Int) (p : Int) : List Node := [docN, p2 ks, tN s, xN r p]
theorem text_right (s : List Int) (hs : s.length ≤ 16384) : rightP (textF s) := by
  have hr := hs
  refine right_of (by simp [textF]) fun j hj => ?_
  have hj' : j < 3 := hj
  match j, hj' with
  | 0, _ =>
    refine ⟨?_, ?_, 1, ?_⟩
    · simp [madeP, m11, m27, m50, m77, m100, m200, textF, docN, pN, p2, tN, xN, atI, n0, traitsOf, namingB, namedB, shortB, attrsB, attrsGo, es, sz0, szp, dec_dec] <;> omega
    · simp [linksP, l1, l2, l3, l4, kidsB, kidsGo, famB, famGo, nodeAt, inB, cntB, textF, docN, pN, p2, tN, xN, atI, n0, dec_dec]
    · simp [inR, itN, upN, aboveOf, textF, docN, pN, p2, tN, xN, atI, n0]
  | 1, _ =>
    refine ⟨?_, ?_, 1, ?_⟩
    · simp [madeP, m11, m27, m50, m77, m100, m200, textF, docN, pN, p2, tN, xN, atI, n0, traitsOf, namingB, namedB, shortB, attrsB, attrsGo, es, sz0, szp, dec_dec] <;> omega
    · simp [linksP, l1, l2, l3, l4, kidsB, kidsGo, famB, famGo, nodeAt, inB, cntB, textF, docN, pN, p2, tN, xN, atI, n0, dec_dec]
    · simp [inR, itN, upN, aboveOf, textF, docN, pN, p2, tN, xN, atI, n0]
  | 2, _ =>
    refine ⟨?_, ?_, 2, ?_⟩
    · simp [madeP, m11, m27, m50, m77, m100, m200, textF, docN, pN, p2, tN, xN, atI, n0, traitsOf, namingB, namedB, shortB, attrsB, attrsGo, es, sz0, szp, dec_dec] <;> omega
    · simp [linksP, l1, l2, l3, l4, kidsB, kidsGo, famB, famGo, nodeAt, inB, cntB, textF, docN, pN, p2, tN, xN, atI, n0, dec_dec]
    · simp [inR, itN, upN, aboveOf, textF, docN, pN, p2, tN, xN, atI, n0]
theorem text4_right (s r : List Int) (hs : s.length ≤ 16384) (hr : r.length ≤ 16384) : rightP (text4 s r [3, 4] 2) := by
  refine right_of (by simp [text4]) fun j hj => ?_
  have hj' : j < 4 := hj
  match j, hj' with
  | 0, _ =>
    refine ⟨?_, ?_, 1, ?_⟩
    · simp [madeP, m11, m27, m50, m77, m100, m200, text4, docN, pN, p2, tN, xN, atI, n0, traitsOf, namingB, namedB, shortB, attrsB, attrsGo, es, sz0, szp, dec_dec] <;> omega
    · simp [linksP, l1, l2, l3, l4, kidsB, kidsGo, famB, famGo, nodeAt, inB, cntB, text4, docN, pN, p2, tN, xN, atI, n0, dec_dec]
    · simp [inR, itN, upN, aboveOf, text4, docN, pN, p2, tN, xN, atI, n0]
  | 1, _ =>
    refine ⟨?_, ?_, 1, ?_⟩
    · simp [madeP, m11, m27, m50, m77, m100, m200, text4, docN, pN, p2, tN, xN, atI, n0, traitsOf, namingB, namedB, shortB, attrsB, attrsGo, es, sz0, szp, dec_dec] <;> omega
    · simp [linksP, l1, l2, l3, l4, kidsB, kidsGo, famB, famGo, nodeAt, inB, cntB, text4, docN, pN, p2, tN, xN, atI, n0, dec_dec]
    · simp [inR, itN, upN, aboveOf, text4, docN, pN, p2, tN, xN, atI, n0]
  | 2, _ =>
    refine ⟨?_, ?_, 2, ?_⟩
    · simp [madeP, m11, m27, m50, m77, m100, m200, text4, docN, pN, p2, tN, xN, atI, n0, traitsOf, namingB, namedB, shortB, attrsB, attrsGo, es, sz0, szp, dec_dec] <;> omega
    · simp [linksP, l1, l2, l3, l4, kidsB, kidsGo, famB, famGo, nodeAt, inB, cntB, text4, docN, pN, p2, tN, xN, atI, n0, dec_dec]
    · simp [inR, itN, upN, aboveOf, text4, docN, pN, p2, tN, xN, atI, n0]
  | 3, _ =>
    refine ⟨?_, ?_, 2, ?_⟩
    · simp [madeP, m11, m27, m50, m77, m100, m200, text4, docN, pN, p2, tN, xN, atI, n0, traitsOf, namingB, namedB, shortB, attrsB, attrsGo, es, sz0, szp, dec_dec] <;> omega
    · simp [linksP, l1, l2, l3, l4, kidsB, kidsGo, famB, famGo, nodeAt, inB, cntB, text4, docN, pN, p2, tN, xN, atI, n0, dec_dec]
    · simp [inR, itN, upN, aboveOf, text4, docN, pN, p2, tN, xN, atI, n0]
theorem text40_right (s r : List Int) (hs : s.length ≤ 16384) (hr : r.length ≤ 16384) : rightP (text4 s r [3] 0) := by
  refine right_of (by simp [text4]) fun j hj => ?_
  have hj' : j < 4 := hj
  match j, hj' with
  | 0, _ =>
    refine ⟨?_, ?_, 1, ?_⟩
    · simp [madeP, m11, m27, m50, m77, m100, m200, text4, docN, pN, p2, tN, xN, atI, n0, traitsOf, namingB, namedB, shortB, attrsB, attrsGo, es, sz0, szp, dec_dec] <;> omega
    · simp [linksP, l1, l2, l3, l4, kidsB, kidsGo, famB, famGo, nodeAt, inB, cntB, text4, docN, pN, p2, tN, xN, atI, n0, dec_dec]
    · simp [inR, itN, upN, aboveOf, text4, docN, pN, p2, tN, xN, atI, n0]
  | 1, _ =>
    refine ⟨?_, ?_, 1, ?_⟩
    · simp [madeP, m11, m27, m50, m77, m100, m200, text4, docN, pN, p2, tN, xN, atI, n0, traitsOf, namingB, namedB, shortB, attrsB, attrsGo, es, sz0, szp, dec_dec] <;> omega
    · simp [linksP, l1, l2, l3, l4, kidsB, kidsGo, famB, famGo, nodeAt, inB, cntB, text4, docN, pN, p2, tN, xN, atI, n0, dec_dec]
    · simp [inR, itN, upN, aboveOf, text4, docN, pN, p2, tN, xN, atI, n0]
  | 2, _ =>
    refine ⟨?_, ?_, 2, ?_⟩
    · simp [madeP, m11, m27, m50, m77, m100, m200, text4, docN, pN, p2, tN, xN, atI, n0, traitsOf, namingB, namedB, shortB, attrsB, attrsGo, es, sz0, szp, dec_dec] <;> omega
    · simp [linksP, l1, l2, l3, l4, kidsB, kidsGo, famB, famGo, nodeAt, inB, cntB, text4, docN, pN, p2, tN, xN, atI, n0, dec_dec]
    · simp [inR, itN, upN, aboveOf, text4, docN, pN, p2, tN, xN, atI, n0]
  | 3, _ =>
    refine ⟨?_, ?_, 1, ?_⟩
    · simp [madeP, m11, m27, m50, m77, m100, m200, text4, docN, pN, p2, tN, xN, atI, n0, traitsOf, namingB, namedB, shortB, attrsB, attrsGo, es, sz0, szp, dec_dec] <;> omega
    · simp [linksP, l1, l2, l3, l4, kidsB, kidsGo, famB, famGo, nodeAt, inB, cntB, text4, docN, pN, p2, tN, xN, atI, n0, dec_dec]
    · simp [inR, itN, upN, aboveOf, text4, docN, pN, p2, tN, xN, atI, n0]
theorem fit_of {f : List Node} (h : f.length ≤ 1000000000) (h2 : ∀ n ∈ f, n.data.length ≤ 100000 ∧ n.attrs.length ≤ 10 ∧ n.kids.length ≤ 10) : Fit f := ⟨h, fun n hn => by
  obtain ⟨a, b, c⟩ := h2 n hn
  exact ⟨by omega, by omega, by omega⟩⟩
theorem text_fit (s : List Int) (hs : s.length ≤ 16384) : Fit (textF s) := fit_of (by simp [textF]) (by simp [textF, docN, pN, tN, n0]; omega)
theorem cf0 {f : List Node} {h : Int} {b : Bool} (hr : rightP f) (hh : inR f h) (hd : dataB (nodeAt f h).kind) (ht : b = true → textB (nodeAt f h).kind) : cfP f h b = 0 := by
  have hfa : faultR f [h] = 0 := by
    unfold faultR
    rw [if_pos (by rw [dec_true]; exact hr), if_pos (by simpa using inB_R.2 hh)]
  unfold cfP
  rw [hfa, if_neg (by omega), if_neg]
  rintro (h1 | ⟨h1, h2⟩)
  · rw [dec_false] at h1; exact h1 hd
  · rw [dec_false] at h2; exact h2 (ht h1)
def abc : List Int := [97, 98, 99]
theorem text_cf (s : List Int) (hs : s.length ≤ 16384) (b : Bool) : cfP (textF s) 3 b = 0 := cf0 (text_right s hs) (by simp [inR, textF]) (.inl (.inl rfl)) (fun _ => .inl rfl)
theorem lives_rep : ∃ L : List Change, L.length = 1 ∧ PureC Tryz.prog 19 [fav (textF abc), iav 3, u32 1, u32 9, .imm (.sl (([120] : List Int).map u16))] (.tup [fav (textF [97, 120]), .imm (.sl (L.map Change.iv)), iav 0]) := by
  have hf := text_fit abc (by decide)
  have hr := text_right abc (by decide)
  have hin : inR (textF abc) 3 := by simp [inR, textF]
  have hi := inv0 hf hr hin
  have hcf := text_cf abc (by decide) false
  have ep : replP (nodeAt (textF abc) 3).data 1 9 [120] = ([97, 120], 0) := by decide
  have ec : putC (textF abc) 3 1 9 [120] = daCh 3 1 2 [120] := by
    rw [putC_da, ep]
    rfl
  have hcan : CanCh (textF abc) (daCh 3 1 2 [120]) := .dat _ _ _ _ hin (by decide) (by omega) (by omega) (by decide) (by decide) (by decide)
  have hd : doneG (textF abc) (daCh 3 1 2 [120]) = (textF [97, 120], 0) := by
    rw [show doneG (textF abc) (daCh 3 1 2 [120]) = doneW (textF abc) 3 [97, 120] from rfl]
    unfold doneW
    rw [show datF (textF abc) 3 [97, 120] = textF [97, 120] from rfl, if_pos (by rw [dec_true]; exact text_right _ (by decide))]
  obtain ⟨b, hb⟩ := putS_R (p := pen0 (textF abc)) (h := 3) (off := 1) (cnt := 9) (v := [120]) hi (fun _ _ => by rw [show (pen0 (textF abc)).F = textF abc from rfl, ec]; exact hcan)
  have eq : putS (pen0 (textF abc)) 3 1 9 [120] = ⟨textF [97, 120], [daCh 3 1 2 [120]], 0⟩ := by
    unfold putS doS
    rw [show (pen0 (textF abc)).F = textF abc from rfl, ep, ec, hd, if_neg (by simp), if_neg (by simp [pen0]), if_neg (by simp)]
    rfl
  have := replace_c (textF abc) _ b 3 [120] 1 9 hf (by omega) (by omega) (by omega) (by omega) (by simp) (fun _ => hb)
  rw [eq, hcf] at this
  unfold ansP at this
  rw [if_neg (by omega), if_neg (by simp)] at this
  exact ⟨_, rfl, this⟩
theorem lives_spl : ∃ (g : List Node) (L : List Change), g.length = 4 ∧ (nodeAt g 4).data = [98, 99] ∧ L.length = 5 ∧ PureC Tryz.prog 12 [fav (textF abc), iav 3, u32 1] (.tup [fav g, iav 4, .imm (.sl (L.map Change.iv)), iav 0]) := by
  have hf := text_fit abc (by decide)
  have hr := text_right abc (by decide)
  have hin : inR (textF abc) 3 := by simp [inR, textF]
  have hcf := text_cf abc (by decide) true
  have ht : textB (nodeAt (textF abc) 3).kind := .inl rfl
  have ho : (1 : Int) ≤ (nodeAt (textF abc) 3).data.length := by decide
  have e1 : spl1 (textF abc) 3 1 = (⟨text4 abc [98, 99] [3] 0, [mkCh 4 (restN (textF abc) 3 1)], 0⟩, true) := by
    unfold spl1 doS
    rw [if_neg (by simp [pen0])]
    have hd : doneG (pen0 (textF abc)).F (mkCh ((textF abc).length + 1) (restN (textF abc) 3 1)) = (text4 abc [98, 99] [3] 0, 0) := by
      rw [show doneG (pen0 (textF abc)).F (mkCh ((textF abc).length + 1) (restN (textF abc) 3 1)) = doneM (textF abc) (restN (textF abc) 3 1) from rfl]
      unfold doneM
      rw [if_neg (by simp [textF]), show textF abc ++ [restN (textF abc) 3 1] = text4 abc [98, 99] [3] 0 from rfl, if_pos (by rw [dec_true]; exact text40_right _ _ (by decide) (by decide))]
    rw [hd, if_neg (by simp)]
    rfl
  have e2 : spl2 (textF abc) 3 1 = ⟨text4 abc [98, 99] [3, 4] 2, [mkCh 4 (restN (textF abc) 3 1), inCh 4 2 1], 0⟩ := by
    unfold spl2 doS
    rw [e1, if_neg (by simp)]
    have hd : doneG (text4 abc [98, 99] [3] 0) (inCh ((textF abc).length + 1) (nodeAt (textF abc) 3).parent (placeP (textF abc) 3 + 1)) = (text4 abc [98, 99] [3, 4] 2, 0) := by
      rw [show doneG (text4 abc [98, 99] [3] 0) (inCh ((textF abc).length + 1) (nodeAt (textF abc) 3).parent (placeP (textF abc) 3 + 1)) = doneA (text4 abc [98, 99] [3] 0) (inCh 4 2 1) from rfl]
      unfold doneA
      rw [show insFM (text4 abc [98, 99] [3] 0) (inCh 4 2 1).node (inCh 4 2 1).parent (inCh 4 2 1).index = text4 abc [98, 99] [3, 4] 2 from rfl, if_pos (by rw [dec_true]; exact text4_right _ _ (by decide) (by decide))]
    simp only
    rw [hd, if_neg (by simp)]
    rfl
  have e3 : spl3 (textF abc) 3 1 = ⟨text4 abc [98, 99] [3, 4] 2, [mkCh 4 (restN (textF abc) 3 1), inCh 4 2 1, treeCh 2 4 3 0], 0⟩ := by
    unfold spl3 doS
    rw [e2, if_neg (by simp)]
    have hd : doneG (text4 abc [98, 99] [3, 4] 2) (treeCh (nodeAt (textF abc) 3).parent ((textF abc).length + 1) 3 (besideP (textF abc) 3 1)) = (text4 abc [98, 99] [3, 4] 2, 0) := by
      rw [show besideP (textF abc) 3 1 = 0 by unfold besideP; rw [if_neg (by decide), if_pos (.inr (by decide))]]
      rw [show doneG (text4 abc [98, 99] [3, 4] 2) (treeCh (nodeAt (textF abc) 3).parent ((textF abc).length + 1) 3 0) = if dec (treeP (text4 abc [98, 99] [3, 4] 2) (treeCh 2 4 3 0)) = true then (text4 abc [98, 99] [3, 4] 2, 0) else ([], 2) from rfl]
      rw [if_pos]
      rw [dec_true]
      exact ⟨rfl, rfl, rfl, .inr rfl, .inl rfl⟩
    simp only
    rw [hd, if_neg (by simp)]
    rw [show besideP (textF abc) 3 1 = 0 by unfold besideP; rw [if_neg (by decide), if_pos (.inr (by decide))]]
    rfl
  have e4 : spl4 (textF abc) 3 1 = ⟨text4 abc [98, 99] [3, 4] 2, [mkCh 4 (restN (textF abc) 3 1), inCh 4 2 1, treeCh 2 4 3 0, splitCh 3 4 1], 0⟩ := by
    unfold spl4
    rw [if_pos ⟨by rw [e1], by decide⟩]
    unfold doS
    rw [e3, if_neg (by simp)]
    have hd : doneG (text4 abc [98, 99] [3, 4] 2) (splitCh 3 ((textF abc).length + 1) 1) = (text4 abc [98, 99] [3, 4] 2, 0) := rfl
    simp only
    rw [hd, if_neg (by simp)]
    rfl
  have eq : splQ (textF abc) 3 1 = ⟨text4 [97] [98, 99] [3, 4] 2, [mkCh 4 (restN (textF abc) 3 1), inCh 4 2 1, treeCh 2 4 3 0, splitCh 3 4 1, daCh 3 1 2 []], 0⟩ := by
    unfold splQ putS
    rw [e4]
    have ep : replP (nodeAt (text4 abc [98, 99] [3, 4] 2) 3).data 1 (restL (textF abc) 3 1).length [] = ([97], 0) := by decide
    simp only
    rw [ep, if_neg (by simp)]
    have ec : putC (text4 abc [98, 99] [3, 4] 2) 3 1 (restL (textF abc) 3 1).length [] = daCh 3 1 2 [] := by
      rw [putC_da, ep]
      rfl
    rw [ec]
    unfold doS
    rw [if_neg (by simp)]
    have hd : doneG (text4 abc [98, 99] [3, 4] 2) (daCh 3 1 2 []) = (text4 [97] [98, 99] [3, 4] 2, 0) := by
      rw [show doneG (text4 abc [98, 99] [3, 4] 2) (daCh 3 1 2 []) = doneW (text4 abc [98, 99] [3, 4] 2) 3 [97] from rfl]
      unfold doneW
      rw [show datF (text4 abc [98, 99] [3, 4] 2) 3 [97] = text4 [97] [98, 99] [3, 4] 2 from rfl, if_pos (by rw [dec_true]; exact text4_right _ _ (by decide) (by decide))]
    simp only
    rw [hd, if_neg (by simp)]
    rfl
  have := splitA_c (textF abc) 3 1 hf (by omega) (by omega)
  unfold splitA at this
  rw [hcf, if_neg (by omega), if_neg (by omega), eq, if_neg (by simp)] at this
  exact ⟨_, _, rfl, rfl, rfl, this⟩
theorem lives_who : PureC Tryz.prog 18 [fav (textF [97]), iav 3] (.tup [.imm (.sl (([97] : List Int).map u16)), iav 0]) := by
  have := whole1_c (textF [97]) 3 (text_fit _ (by decide)) (text_cf _ (by decide) true) (by decide)
  rw [show wholeP (textF [97]) 3 = [97] by
    unfold wholeP
    rw [if_neg (by decide)]
    have e : idx (nodeAt (textF [97]) (nodeAt (textF [97]) 3).parent).kids 3 = 0 := by decide
    rw [e]
    have t3 : txt (textF [97]) 3 = true := by unfold txt; rw [dec_true]; exact .inl rfl
    rw [show (nodeAt (textF [97]) (nodeAt (textF [97]) 3).parent).kids = [3] from rfl]
    simp [leftN, runGo, t3]
    rfl] at this
  exact this
end Go.Proofs.YtmhejcnaanocpaaGreat.A
namespace Go.Proofs.YtmhejcnaanocpaaGreat.A
set_option linter.unusedVariables false
set_option linter.unusedSimpArgs false
set_option maxRecDepth 100000
set_option maxHeartbeats 4000000
theorem lives_c : PureC Tryz.prog 14 [] (bav true) := by
  obtain ⟨L1, hL1, r1⟩ := lives_rep
  obtain ⟨g, L2, hg, hd, hL2, r2⟩ := lives_spl
  have r3 := lives_who
  have t1 := text0_c abc
  have t2 := text0_c [97]
  have hgm : (g.map Node.iv).length = 4 := by rw [List.length_map, hg]
  have hm1 : (L1.map Change.iv).length = 1 := by rw [List.length_map, hL1]
  have hm2 : (L2.map Change.iv).length = 5 := by rw [List.length_map, hL2]
  have hg3 : (atI g 3).data = [98, 99] := by
    rw [← hd, node_in ⟨by omega, by omega⟩]
    rfl
  have s1 := same_c [97, 120] [97, 120] (by simp) (by simp)
  have s2 := same_c (atI g 3).data [98, 99] (by rw [hg3]; simp) (by simp)
  rw [show dec (([97, 120] : List Int) = [97, 120]) = true by rw [dec_true]] at s1
  rw [show dec ((atI g 3).data = [98, 99]) = true by rw [dec_true]; exact hg3] at s2
  have ht3 : (textF [97, 120]).length = 3 := rfl
  have hx2 : (atI (textF [97, 120]) 2).data = [97, 120] := rfl
  have hm3 : ((textF [97, 120]).map Node.iv).length = 3 := rfl
  refine PureC.mk tabs Tryz.func14 89 [.tmp 0] rfl rfl rfl rfl rfl ?_; intro w0 X
  (repeat' (first | ((with_reducible show AL _ _ _ _ _); first | refine AL.give 0 (h1 := []) (env1 := [(11, .imm (.sl (abc.map u16)))]) (abc.map u16) rfl rfl ⟨⟨_, rfl, rfl⟩, trivial⟩ rfl rfl rfl (Nat.zero_le _) ?_ | refine AL.give 0 (h1 := []) (env1 := [(12, fav (textF abc)), (13, .imm (.sl (([120] : List Int).map u16)))]) (([120] : List Int).map u16) rfl rfl ⟨⟨_, rfl, rfl⟩, ⟨_, rfl, rfl⟩, trivial⟩ rfl rfl rfl (Nat.zero_le _) ?_ | refine AL.give 1 (h1 := [⟨24, 1, [[.imm (.sl ((textF [97, 120]).map Node.iv))]]⟩]) (env1 := [(1, .ptr 0 1 0 0), (2, .imm (.sl ((L1).map Change.iv))), (3, iav 0), (19, .imm (.sl (abc.map u16)))]) (abc.map u16) rfl rfl ⟨⟨_, rfl, rfl⟩, ⟨_, rfl, rfl⟩, ⟨_, rfl, rfl⟩, ⟨_, rfl, rfl⟩, trivial⟩ rfl rfl rfl (Nat.zero_le _) ?_ | refine AL.give 2 (h1 := [⟨24, 1, [[.imm (.sl ((textF [97, 120]).map Node.iv))]]⟩, ⟨24, 1, [[.imm (.sl ((g).map Node.iv))]]⟩]) (env1 := [(1, .ptr 0 1 0 0), (2, .imm (.sl ((L1).map Change.iv))), (3, iav 0), (4, .ptr 1 1 0 0), (5, iav 4), (6, .imm (.sl ((L2).map Change.iv))), (7, iav 0), (27, .imm (.sl (([97] : List Int).map u16)))]) (([97] : List Int).map u16) rfl rfl ⟨⟨_, rfl, rfl⟩, ⟨_, rfl, rfl⟩, ⟨_, rfl, rfl⟩, ⟨_, rfl, rfl⟩, ⟨_, rfl, rfl⟩, ⟨_, rfl, rfl⟩, ⟨_, rfl, rfl⟩, ⟨_, rfl, rfl⟩, trivial⟩ rfl rfl rfl (Nat.zero_le _) ?_ | (refine AL.step tabs rfl ?_; try dsimp only [len, List.nil_append, List.cons_append]) | refine AL.op rfl (OpOK.call rfl rfl rfl rfl t1 rfl) ?_ | refine AL.op rfl (OpOK.call rfl rfl rfl rfl t2 rfl) ?_ | refine AL.op rfl (OpOK.callfz rfl rfl rfl rfl s1 rfl rfl) ?_ | refine AL.op rfl (OpOK.callfz rfl rfl rfl rfl s2 rfl rfl) ?_ | refine AL.op rfl (OpOK.call rfl rfl rfl rfl r1 rfl) ?_ | refine AL.op rfl (OpOK.call rfl rfl rfl rfl r2 rfl) ?_ | refine AL.op rfl (OpOK.call rfl rfl rfl rfl r3 rfl) ?_ | refine AL.nil ?_ | (refine AL.gsplitE rfl rfl rfl (fun hc => ?_) (fun hc => ?_) <;> (fail_if_success (exact absurd hc (by decide))) <;> (try simp only [hsx] at hc) <;> (try first | (exfalso; omega) | contradiction | (exfalso; simp [dec_eq] at hc; done))) | (refine AL.op rfl (OpOK.index_map tabs rfl rfl rfl rfl rfl rfl rfl (fun _ => rfl) (by decide) (by omega) (by omega)) ?_)) | refine AW.seq ?_ | refine AW.region ?_ | refine Then.norm ?_ | refine AW.skip ?_ | refine AW.condT rfl ?_ | refine AW.condF rfl ?_ | (refine AW.cond rfl (fun hc => ?_) (fun hc => ?_) <;> (try simp only [hsx] at hc) <;> (try first | (exfalso; omega) | contradiction | (exfalso; simp [dec_eq] at hc; done))) | refine AW.ret ?_ | refine Then.ret ?_))
  refine RQ.fin rfl rfl (congrArg bav ?_); simp [dec_eq]
end Go.Proofs.YtmhejcnaanocpaaGreat.A
namespace Go.Proofs.YtmhejcnaanocpaaGreat.A
open Go.RowKit
set_option linter.unusedVariables false
set_option linter.unusedSimpArgs false
section
variable {C : Cx} {s : St} {o : Oper} {T : List (Nat × TI)} {l : List Oper}
theorem LS.lit0 (hT : TsOK C.P T) (hw : awant l s o = some true) (hd : dok C.nt o.dst = true) {t e : TypeId} {ps : Array (Nat × Operand)} (ho : o.op = .buildSlice t 0 ps) (hp : ps.toList = []) {i ie : TI} (hi : look T t = some i) (hk : i.kd = .sl e) (hie : look T e = some ie) : LS C l s o (mkFx l s o (.val .nocap) []) :=
  LS.quiet [] hw fun s' hl => OpOK.lit0 hT hd ho hp hi hk hie
theorem LS.nocap0_imm (hT : TsOK C.P T) (hw : awant l s o = some true) (hd : dok C.nt o.dst = true) {x y : Operand} {t tx e e2 : TypeId} (ho : o.op = .call ⟨.builtin .append, #[x, y], #[t, tx]⟩) {i i2 ie : TI} (hi : look T t = some i) (hk : i.kd = .sl e) (hie : look T e = some ie) (hx : s.ev x = some .nocap) (hi2 : look T tx = some i2) (hk2 : i2.kd = .sl e2) {rows : List (List IV)} (hy : s.ev y = some (.imm (.sl rows))) (h0 : rows = []) : LS C l s o (mkFx l s o (.val .nocap) []) :=
  LS.quiet [] hw fun s' hl => by
    have hxm : x ∈ o.op.operands.toList := by rw [ho]; simp [Op.operands, Call.operands]
    have hym : y ∈ o.op.operands.toList := by rw [ho]; simp [Op.operands, Call.operands]
    subst h0
    exact OpOK.append_nocap0 hT hd ho hi hk hie ((hl.ev x hxm).trans hx) (SrcA.imm (rows := []) hT hi2 hk2 ((hl.ev y hym).trans hy) (fun r hr => by cases hr))
theorem LS.nocap_imm (p : Nat) (hT : TsOK C.P T) (hw : awant l s o = some true) (hd : dok C.nt o.dst = true) {x y : Operand} {t tx e e2 : TypeId} (ho : o.op = .call ⟨.builtin .append, #[x, y], #[t, tx]⟩) {i i2 ie : TI} (hi : look T t = some i) (hk : i.kd = .sl e) (hie : look T e = some ie) (hpos : 0 < ie.sz) (hx : s.ev x = some .nocap)
    {sz : Nat} (hp : nth s.hp p = some ⟨e, sz, []⟩) (hsz : sz = ie.sz) (hi2 : look T tx = some i2) (hk2 : i2.kd = .sl e2) {rows : List (List IV)} (hy : s.ev y = some (.imm (.sl rows))) (hne : rows ≠ []) (hrl : ∀ r ∈ rows, r.length = ie.sz) (hbound : rows.length * ie.bytes ≤ 140737488355328) (h63 : rows.length ≤ 9223372036854775807) :
    LS C l s o (mkFx l s o (.blk p ⟨e, sz, rows.map (·.map .imm)⟩ (.os p rows.length)) [p]) :=
  LS.blk [p] hw fun s' hl => by
    have hxm : x ∈ o.op.operands.toList := by rw [ho]; simp [Op.operands, Call.operands]
    have hym : y ∈ o.op.operands.toList := by rw [ho]; simp [Op.operands, Call.operands]
    have := OpOK.append_nocap_at p hT hd ho hi hk hie hpos ((hl.ev x hxm).trans hx) ((hl.xb p (by simp)).trans hp) hsz (by simpa using hne) (SrcA.imm (rows := rows) hT hi2 hk2 ((hl.ev y hym).trans hy) hrl) (by simpa using hbound) (by simpa using h63)
    rw [List.length_map] at this
    exact this
theorem LS.append_imm (hT : TsOK C.P T) (hw : awant l s o = some true) (hd : dok C.nt o.dst = true) {x y : Operand} {t tx e e2 : TypeId} (ho : o.op = .call ⟨.builtin .append, #[x, y], #[t, tx]⟩) {i i2 ie : TI} (hi : look T t = some i) (hk : i.kd = .sl e) (hie : look T e = some ie) {id n : Nat} (hx : s.ev x = some (.os id n))
    {ty sz : Nat} {rows : List (List AV)} (hb : nth s.hp id = some ⟨ty, sz, rows⟩) (hver : n = rows.length) (hty : ty = e) (hsz : sz = ie.sz) (hi2 : look T tx = some i2) (hk2 : i2.kd = .sl e2) {rows2 : List (List IV)} (hy : s.ev y = some (.imm (.sl rows2))) (hrl : ∀ r ∈ rows2, r.length = ie.sz) (hbound : (rows.length + rows2.length) * ie.bytes ≤ 140737488355328) (h63 : rows.length + rows2.length ≤ 9223372036854775807) :
    LS C l s o (mkFx l s o (.blk id ⟨ty, sz, rows ++ rows2.map (·.map .imm)⟩ (.os id (n + rows2.length))) []) := by
  have := LS.append_os hT hw hd ho hi hk hie hx hb hver hty hsz (rows2 := rows2.map (·.map .imm)) (fun s' hl => by
    have hym : y ∈ o.op.operands.toList := by rw [ho]; simp [Op.operands, Call.operands]
    exact SrcA.imm (rows := rows2) hT hi2 hk2 ((hl.ev y hym).trans hy) hrl) (by simpa using hbound) (by simpa using h63)
  rw [List.length_map] at this
  exact this
end
end Go.Proofs.YtmhejcnaanocpaaGreat.A
