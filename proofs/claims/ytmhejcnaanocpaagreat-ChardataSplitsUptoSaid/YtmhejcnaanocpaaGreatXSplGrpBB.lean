/- Contracts: canopyref01.Compare, Same; canopyref03.New, the law's text. -/
import Derived.Test.YtmhejcnaanocpaaGreatXSplGrpAX
import Derived.Test.YtmhejcnaanocpaaGreatXSplGrpBA
import Derived.Test.YtmhejcnaanocpaaGreatXSplGrpAI
import Derived.Test.YtmhejcnaanocpaaGreatXSplGrpAL
import Derived.Test.YtmhejcnaanocpaaGreatXSplGrpAP
namespace Go.Proofs.YtmhejcnaanocpaaGreat.A
set_option linter.unusedVariables false
set_option linter.unusedSimpArgs false
set_option maxRecDepth 100000
set_option maxHeartbeats 4000000
def cmpGo : List Int → List Int → Int
  | [], [] => 0
  | [], _ :: _ => -1
  | _ :: _, [] => 1
  | a :: u, b :: v => if a < b then -1 else if b < a then 1 else cmpGo u v
theorem qhd : ∀ u v : List Int, cmpGo u v = 0 ↔ u = v
  | [], [] => by simp [cmpGo]
  | [], _ :: _ => by simp [cmpGo]
  | _ :: _, [] => by simp [cmpGo]
  | a :: u, b :: v => by
    unfold cmpGo
    by_cases h1 : a < b
    · rw [if_pos h1]
      constructor
      · intro h; omega
      · intro h; injection h with h2 h3; omega
    · rw [if_neg h1]
      by_cases h2 : b < a
      · rw [if_pos h2]
        constructor
        · intro h; omega
        · intro h; injection h with h2 h3; omega
      · rw [if_neg h2, qhd u v]
        have : a = b := by omega
        subst this
        simp
theorem qeu (u v : List Int) {i : Int} (h0 : 0 ≤ i) (h1 : i < u.length) (h2 : i < v.length) : cmpGo (u.drop i.toNat) (v.drop i.toNat) = if atI u i < atI v i then -1 else if atI v i < atI u i then 1 else cmpGo (u.drop (i + 1).toNat) (v.drop (i + 1).toNat) := by
  rw [qd h0 h1, qd h0 h2]
  rfl
theorem qof (u v : List Int) {i : Int} (h0 : 0 ≤ i) (h1 : u.length ≤ i) (h2 : i < v.length) : cmpGo (u.drop i.toNat) (v.drop i.toNat) = -1 := by
  rw [List.drop_eq_nil_of_le (by omega), qd h0 h2]
  rfl
theorem qog (u v : List Int) {i : Int} (h0 : 0 ≤ i) (h1 : i < u.length) (h2 : v.length ≤ i) : cmpGo (u.drop i.toNat) (v.drop i.toNat) = 1 := by
  rw [show v.drop i.toNat = [] from List.drop_eq_nil_of_le (by omega), qd h0 h1]
  rfl
theorem qoh (u v : List Int) {i : Int} (h0 : 0 ≤ i) (h1 : u.length ≤ i) (h2 : v.length ≤ i) : cmpGo (u.drop i.toNat) (v.drop i.toNat) = 0 := by
  rw [show v.drop i.toNat = [] from List.drop_eq_nil_of_le (by omega), show u.drop i.toNat = [] from List.drop_eq_nil_of_le (by omega)]
  rfl
theorem qjt (u v : List Int) (hu : u.length ≤ 1000000000) (hv : v.length ≤ 1000000000) : PureC Tryz.prog 58 [.imm (.sl (u.map u16)), .imm (.sl (v.map u16))] (iav (cmpGo u v)) := by
  have hmu : (u.map u16).length = u.length := List.length_map _
  have hmv : (v.map u16).length = v.length := List.length_map _
  refine yq tabs Tryz.func58 48 [.tmp 4] rfl rfl rfl rfl rfl ?_; intro w0 X
  (repeat' (first | ((with_reducible show AL _ _ _ _ _); first | (refine yg tabs rfl ?_; try dsimp only [len, List.nil_append, List.cons_append]) | refine yo ?_ | (refine yn rfl rfl rfl (fun hc => ?_) (fun hc => ?_) <;> (fail_if_success (exact absurd hc (by decide))) <;> (try simp only [hsx] at hc) <;> (try first | omega | contradiction | (simp [qa] at hc; done))) | (refine AL.op rfl (yf rfl rfl rfl rfl rfl (by omega) (by omega)) ?_) | (refine AL.op rfl (yd tabs rfl rfl rfl rfl rfl rfl rfl (fun _ => rfl) (by decide) (by omega) (by omega)) ?_)) | ((with_reducible show DQ _ _ _ _ _ _); first | refine DQ.stepc (LS.val tabs rfl rfl rfl) rfl rfl rfl rfl rfl ?_ | refine DQ.stepc (yy rfl rfl) rfl rfl rfl rfl rfl ?_ | refine DQ.nilM (by kernel_rfl) ?_ | refine DQ.stepc (yac rfl rfl rfl rfl rfl rfl (by omega) (by omega)) rfl rfl rfl rfl rfl ?_ | refine DQ.stepc (yu tabs rfl rfl rfl rfl rfl rfl rfl rfl (fun _ => rfl) (by decide) (by omega) (by omega)) rfl rfl rfl rfl rfl ?_ | (refine DQ.gsplitE rfl rfl rfl (fun hc => ?_) (fun hc => ?_) <;> (fail_if_success (exact absurd hc (by decide))) <;> (try simp only [hsx] at hc) <;> (try first | omega | contradiction | (simp [qa] at hc; done)))) | fail | refine ym ?_ | refine ya ?_ | refine yb ?_ | refine yh ?_ | refine AW.block ?_ | refine yx ?_ | refine yj rfl ?_ | refine yi rfl ?_ | (refine yk rfl (fun hc => ?_) (fun hc => ?_) <;> (try simp only [hsx] at hc) <;> (try first | omega | contradiction | (simp [qa] at hc; done))) | refine yp ?_ | refine yaa ?_ | refine yc ?_ | refine yr ?_ | refine yab ?_ | refine yw ?_ | refine InB.off rfl ?_ | refine yaf ?_ | refine yz ?_ | refine yt mixed (by kernel_rfl) ?_))
  refine yao (α := Int) (fun i => ⟨[(0, .imm (.sl (u.map u16))), (1, .imm (.sl (v.map u16))), (5, iav i)], []⟩) (fun i => 0 ≤ i ∧ i ≤ u.length ∧ i ≤ v.length ∧ cmpGo (u.drop i.toNat) (v.drop i.toNat) = cmpGo u v) (fun i => (u.length - i).toNat) 0 (yag 0 rfl (by repeat' (first | exact trivial | refine ⟨rfl, ?_⟩)) rfl rfl (Nat.zero_le _)) ⟨by omega, by omega, by omega, rfl⟩ ?_
  intro i ⟨h0, h1, h2, h3⟩
  (repeat' (first | ((with_reducible show AL _ _ _ _ _); first | (refine yg tabs rfl ?_; try dsimp only [len, List.nil_append, List.cons_append]) | refine yo ?_ | (refine yn rfl rfl rfl (fun hc => ?_) (fun hc => ?_) <;> (fail_if_success (exact absurd hc (by decide))) <;> (try simp only [hsx] at hc) <;> (try first | omega | contradiction | (simp [qa] at hc; done))) | (refine AL.op rfl (yf rfl rfl rfl rfl rfl (by omega) (by omega)) ?_) | (refine AL.op rfl (yd tabs rfl rfl rfl rfl rfl rfl rfl (fun _ => rfl) (by decide) (by omega) (by omega)) ?_)) | ((with_reducible show DQ _ _ _ _ _ _); first | refine DQ.stepc (LS.val tabs rfl rfl rfl) rfl rfl rfl rfl rfl ?_ | refine DQ.stepc (yy rfl rfl) rfl rfl rfl rfl rfl ?_ | refine DQ.nilM (by kernel_rfl) ?_ | refine DQ.stepc (yac rfl rfl rfl rfl rfl rfl (by omega) (by omega)) rfl rfl rfl rfl rfl ?_ | refine DQ.stepc (yu tabs rfl rfl rfl rfl rfl rfl rfl rfl (fun _ => rfl) (by decide) (by omega) (by omega)) rfl rfl rfl rfl rfl ?_ | (refine DQ.gsplitE rfl rfl rfl (fun hc => ?_) (fun hc => ?_) <;> (fail_if_success (exact absurd hc (by decide))) <;> (try simp only [hsx] at hc) <;> (try first | omega | contradiction | (simp [qa] at hc; done)))) | refine ym ?_ | refine ya ?_ | refine yb ?_ | refine yh ?_ | refine AW.block ?_ | refine yx ?_ | refine yj rfl ?_ | refine yi rfl ?_ | (refine yk rfl (fun hc => ?_) (fun hc => ?_) <;> (try simp only [hsx] at hc) <;> (try first | omega | contradiction | (simp [qa] at hc; done))) | refine yp ?_ | refine yaa ?_ | refine yc ?_ | refine yr ?_ | refine yab ?_ | refine yw ?_ | refine InB.off rfl ?_ | refine yaf ?_ | refine yz ?_ | refine yt mixed (by kernel_rfl) ?_))
  · rw [qeu u v h0 (by assumption) (by assumption), if_pos hc] at h3
    rw [← h3]
    exact RQ.fin rfl rfl rfl
  · rw [qeu u v h0 (by assumption) (by assumption), if_neg (by omega), if_pos hc] at h3
    rw [← h3]
    exact RQ.fin rfl rfl rfl
  · rw [qeu u v h0 (by assumption) (by assumption), if_neg (by omega), if_neg (by omega)] at h3
    exact yaj (i + 1) (yag 0 rfl (by repeat' (first | exact trivial | refine ⟨rfl, ?_⟩)) rfl rfl (Nat.zero_le _)) ⟨by omega, by omega, by omega, h3⟩ (by omega)
  · rw [qog u v h0 (by assumption) (by assumption)] at h3
    rw [← h3]
    exact RQ.fin rfl rfl rfl
  · rw [qof u v h0 (by assumption) (by omega)] at h3
    rw [← h3]
    exact RQ.fin rfl rfl rfl
  · rw [qoh u v h0 (by omega) (by omega)] at h3
    rw [← h3]
    exact RQ.fin rfl rfl rfl
theorem ql9 (u v : List Int) (hu : u.length ≤ 1000000000) (hv : v.length ≤ 1000000000) : PureC Tryz.prog 17 [.imm (.sl (u.map u16)), .imm (.sl (v.map u16))] (bav (dec (u = v))) := by
  have c1 := qjt u v hu hv
  rw [show dec (u = v) = dec (cmpGo u v = 0) by rw [Bool.eq_iff_iff, qc, qc]; exact (qhd u v).symm]
  refine yq tabs Tryz.func17 9 [.tmp 4] rfl rfl rfl rfl rfl ?_; intro w0 X
  (repeat' (first | ((with_reducible show AL _ _ _ _ _); first | (refine yg tabs rfl ?_; try dsimp only [len, List.nil_append, List.cons_append]) | refine AL.op rfl (ye rfl rfl rfl rfl c1 rfl) ?_ | refine yo ?_) | refine ym ?_ | refine ya ?_ | refine yb ?_ | refine yh ?_ | refine yp ?_ | refine yc ?_))
  exact RQ.fin rfl rfl rfl
def docN : Node := { n0 with kind := 9, doc := 1, html := true }
def rawD : List AV := [kav 9, sav es, sav es, sav es, sav es, sav es, .nils, .nils, iav 0, .nils, iav 1, iav 0, iav 0, kav 0, bav false, bav true]
def rawP (k : AV) : List AV := [kav 1, sav es, sav es, sav ⟨#[112]⟩, sav es, sav es, .nils, .nils, iav 0, k, iav 1, iav 0, iav 0, kav 0, bav false, bav false]
def rawX (s : List Int) : List AV := [kav 3, sav es, sav es, sav es, sav es, sav es, .imm (.sl (s.map u16)), .nils, iav 2, .nils, iav 1, iav 0, iav 0, kav 0, bav false, bav false]
theorem qoi : GenC Tryz.prog 91 [] [bav true] (.agg [.os 1 1]) [⟨24, 1, [[.os 1 1]]⟩, ⟨44, 16, [rawD]⟩] := by
  refine yai tabs Tryz.func91 7 [.cell 2 24] rfl rfl rfl rfl rfl ?_; intro w0 X γ κ
  (repeat' (first | ((with_reducible show AL _ _ _ _ _); first | (refine yg tabs rfl ?_; try dsimp only [len, List.nil_append, List.cons_append]) | refine yo ?_) | refine ym ?_ | refine ya ?_ | refine yb ?_ | refine yh ?_ | refine yp ?_ | refine yc ?_))
  exact yal 2 rfl rfl rfl rfl rfl (by simp [cxG])
def pN : Node := { n0 with kind := 1, name := ⟨es, es, ⟨#[112]⟩⟩, doc := 1, kids := [3] }
def tN (s : List Int) : Node := { n0 with kind := 3, doc := 1, parent := 2, data := s }
def textF (s : List Int) : List Node := [docN, pN, tN s]
theorem qju (s : List Int) : PureC Tryz.prog 56 [.imm (.sl (s.map u16))] (fav (textF s)) := by
  have hr : ∀ r ∈ [rawP (.os 4 1), rawX s], r.length = 16 := by
    intro r hr
    rcases List.mem_cons.1 hr with e | hr
    · rw [e]; rfl
    · rw [List.mem_singleton.1 hr]; rfl
  have hc : ∀ c ∈ [rawP (.os 4 1), rawX s].flatten, c.cell = true := by
    have : [rawP (.os 4 1), rawX s].flatten.all AV.cell = true := rfl
    rw [List.all_eq_true] at this
    exact this
  refine yq tabs Tryz.func56 16 [.cell 2 24] rfl rfl rfl rfl rfl ?_; intro w0 X
  (repeat' (first | ((with_reducible show AL _ _ _ _ _); first | (refine yg tabs rfl ?_; try dsimp only [len, List.nil_append, List.cons_append]) | refine yae [] 1 rfl rfl rfl rfl rfl (caps := []) rfl qoi rfl rfl rfl rfl rfl rfl rfl rfl (hpA := [⟨24, 1, [[.os 2 1]]⟩, ⟨44, 16, [rawD]⟩]) rfl (r' := .agg [.os 2 1]) rfl rfl ?_; try dsimp only [setAll, List.drop_succ_cons, List.drop_zero, List.drop_nil, List.set_cons_succ, List.set_cons_zero, List.cons_append, List.nil_append, List.append_nil, len, Nat.reduceAdd] | refine yad rfl (yam (ie := ti44) (b := ⟨44, 16, [rawD]⟩) (rows2 := [rawP (.os 4 1), rawX s]) tabs rfl rfl rfl rfl rfl rfl rfl rfl rfl rfl (SrcA.own tabs rfl rfl rfl (b := ⟨44, 16, [rawP (.os 4 1), rawX s]⟩) rfl rfl rfl hr hc) (by simp [ti44]) (by simp)) rfl ?_ | refine yo ?_) | refine ym ?_ | refine ya ?_ | refine yb ?_ | refine yh ?_ | refine yp ?_ | refine yc ?_))
  refine yas rfl (Fz.agg (.cons (Fz.osN (b := ⟨44, 16, [rawD, rawP (.os 4 1), rawX s]⟩) (rows := (textF s).map Node.iv) (hb := rfl) (hver := ?_) (hlen := ?_) (hrl := ?_) (hr := ?_)) .nil))
  · rfl
  · rfl
  · intro r hr
    obtain ⟨n, _, rfl⟩ := List.mem_map.1 hr
    rfl
  repeat' (first | exact All2.nil | refine All2.cons ?_ ?_)
  all_goals first
    | exact FzI.imm _
    | exact FzI.of (Fz.cv rfl)
    | (refine FzI.of (Fz.os (hb := rfl) (hver := ?_) (hr := ?_)) <;> rfl)
theorem qw (p : Prop) [Decidable p] : dec p = decide p := qa p
theorem qev {f : List Node} (h : f.length ≤ 4096) (h2 : ∀ j : Nat, j < f.length → okP f (j : Int) (atI f j)) : rightP f := ⟨h, fun i h0 h1 => by
  have := h2 i.toNat (by omega)
  rw [show ((i.toNat : Nat) : Int) = i by omega] at this
  exact this⟩
theorem sz0 : (⟨#[]⟩ : ByteArray).size = 0 := rfl
theorem szp : (⟨#[112]⟩ : ByteArray).size = 1 := rfl
def p2 (ks : List Int) : Node := { pN with kids := ks }
def xN (r : List Int) (p : Int) : Node := { n0 with kind := 3, doc := 1, parent := p, data := r }
def text4 (s r : List Int) (ks : List Int) (p : Int) : List Node := [docN, p2 ks, tN s, xN r p]
theorem qb6 (s : List Int) (hs : s.length ≤ 16384) : rightP (textF s) := by
  have hr := hs
  refine qev (by simp [textF]) fun j hj => ?_
  have hj' : j < 3 := hj
  match j, hj' with
  | 0, _ =>
    refine ⟨?_, ?_, 1, ?_⟩
    · simp [madeP, m11, m27, m50, m77, m100, m200, textF, docN, pN, p2, tN, xN, atI, n0, traitsOf, namingB, namedB, shortB, attrsB, attrsGo, es, sz0, szp, qw] <;> omega
    · simp [linksP, l1, l2, l3, l4, kidsB, kidsGo, famB, famGo, nodeAt, inB, cntB, textF, docN, pN, p2, tN, xN, atI, n0, qw]
    · simp [inR, itN, upN, aboveOf, textF, docN, pN, p2, tN, xN, atI, n0]
  | 1, _ =>
    refine ⟨?_, ?_, 1, ?_⟩
    · simp [madeP, m11, m27, m50, m77, m100, m200, textF, docN, pN, p2, tN, xN, atI, n0, traitsOf, namingB, namedB, shortB, attrsB, attrsGo, es, sz0, szp, qw] <;> omega
    · simp [linksP, l1, l2, l3, l4, kidsB, kidsGo, famB, famGo, nodeAt, inB, cntB, textF, docN, pN, p2, tN, xN, atI, n0, qw]
    · simp [inR, itN, upN, aboveOf, textF, docN, pN, p2, tN, xN, atI, n0]
  | 2, _ =>
    refine ⟨?_, ?_, 2, ?_⟩
    · simp [madeP, m11, m27, m50, m77, m100, m200, textF, docN, pN, p2, tN, xN, atI, n0, traitsOf, namingB, namedB, shortB, attrsB, attrsGo, es, sz0, szp, qw] <;> omega
    · simp [linksP, l1, l2, l3, l4, kidsB, kidsGo, famB, famGo, nodeAt, inB, cntB, textF, docN, pN, p2, tN, xN, atI, n0, qw]
    · simp [inR, itN, upN, aboveOf, textF, docN, pN, p2, tN, xN, atI, n0]
theorem qdu (s r : List Int) (hs : s.length ≤ 16384) (hr : r.length ≤ 16384) : rightP (text4 s r [3, 4] 2) := by
  refine qev (by simp [text4]) fun j hj => ?_
  have hj' : j < 4 := hj
  match j, hj' with
  | 0, _ =>
    refine ⟨?_, ?_, 1, ?_⟩
    · simp [madeP, m11, m27, m50, m77, m100, m200, text4, docN, pN, p2, tN, xN, atI, n0, traitsOf, namingB, namedB, shortB, attrsB, attrsGo, es, sz0, szp, qw] <;> omega
    · simp [linksP, l1, l2, l3, l4, kidsB, kidsGo, famB, famGo, nodeAt, inB, cntB, text4, docN, pN, p2, tN, xN, atI, n0, qw]
    · simp [inR, itN, upN, aboveOf, text4, docN, pN, p2, tN, xN, atI, n0]
  | 1, _ =>
    refine ⟨?_, ?_, 1, ?_⟩
    · simp [madeP, m11, m27, m50, m77, m100, m200, text4, docN, pN, p2, tN, xN, atI, n0, traitsOf, namingB, namedB, shortB, attrsB, attrsGo, es, sz0, szp, qw] <;> omega
    · simp [linksP, l1, l2, l3, l4, kidsB, kidsGo, famB, famGo, nodeAt, inB, cntB, text4, docN, pN, p2, tN, xN, atI, n0, qw]
    · simp [inR, itN, upN, aboveOf, text4, docN, pN, p2, tN, xN, atI, n0]
  | 2, _ =>
    refine ⟨?_, ?_, 2, ?_⟩
    · simp [madeP, m11, m27, m50, m77, m100, m200, text4, docN, pN, p2, tN, xN, atI, n0, traitsOf, namingB, namedB, shortB, attrsB, attrsGo, es, sz0, szp, qw] <;> omega
    · simp [linksP, l1, l2, l3, l4, kidsB, kidsGo, famB, famGo, nodeAt, inB, cntB, text4, docN, pN, p2, tN, xN, atI, n0, qw]
    · simp [inR, itN, upN, aboveOf, text4, docN, pN, p2, tN, xN, atI, n0]
  | 3, _ =>
    refine ⟨?_, ?_, 2, ?_⟩
    · simp [madeP, m11, m27, m50, m77, m100, m200, text4, docN, pN, p2, tN, xN, atI, n0, traitsOf, namingB, namedB, shortB, attrsB, attrsGo, es, sz0, szp, qw] <;> omega
    · simp [linksP, l1, l2, l3, l4, kidsB, kidsGo, famB, famGo, nodeAt, inB, cntB, text4, docN, pN, p2, tN, xN, atI, n0, qw]
    · simp [inR, itN, upN, aboveOf, text4, docN, pN, p2, tN, xN, atI, n0]
theorem qfn (s r : List Int) (hs : s.length ≤ 16384) (hr : r.length ≤ 16384) : rightP (text4 s r [3] 0) := by
  refine qev (by simp [text4]) fun j hj => ?_
  have hj' : j < 4 := hj
  match j, hj' with
  | 0, _ =>
    refine ⟨?_, ?_, 1, ?_⟩
    · simp [madeP, m11, m27, m50, m77, m100, m200, text4, docN, pN, p2, tN, xN, atI, n0, traitsOf, namingB, namedB, shortB, attrsB, attrsGo, es, sz0, szp, qw] <;> omega
    · simp [linksP, l1, l2, l3, l4, kidsB, kidsGo, famB, famGo, nodeAt, inB, cntB, text4, docN, pN, p2, tN, xN, atI, n0, qw]
    · simp [inR, itN, upN, aboveOf, text4, docN, pN, p2, tN, xN, atI, n0]
  | 1, _ =>
    refine ⟨?_, ?_, 1, ?_⟩
    · simp [madeP, m11, m27, m50, m77, m100, m200, text4, docN, pN, p2, tN, xN, atI, n0, traitsOf, namingB, namedB, shortB, attrsB, attrsGo, es, sz0, szp, qw] <;> omega
    · simp [linksP, l1, l2, l3, l4, kidsB, kidsGo, famB, famGo, nodeAt, inB, cntB, text4, docN, pN, p2, tN, xN, atI, n0, qw]
    · simp [inR, itN, upN, aboveOf, text4, docN, pN, p2, tN, xN, atI, n0]
  | 2, _ =>
    refine ⟨?_, ?_, 2, ?_⟩
    · simp [madeP, m11, m27, m50, m77, m100, m200, text4, docN, pN, p2, tN, xN, atI, n0, traitsOf, namingB, namedB, shortB, attrsB, attrsGo, es, sz0, szp, qw] <;> omega
    · simp [linksP, l1, l2, l3, l4, kidsB, kidsGo, famB, famGo, nodeAt, inB, cntB, text4, docN, pN, p2, tN, xN, atI, n0, qw]
    · simp [inR, itN, upN, aboveOf, text4, docN, pN, p2, tN, xN, atI, n0]
  | 3, _ =>
    refine ⟨?_, ?_, 1, ?_⟩
    · simp [madeP, m11, m27, m50, m77, m100, m200, text4, docN, pN, p2, tN, xN, atI, n0, traitsOf, namingB, namedB, shortB, attrsB, attrsGo, es, sz0, szp, qw] <;> omega
    · simp [linksP, l1, l2, l3, l4, kidsB, kidsGo, famB, famGo, nodeAt, inB, cntB, text4, docN, pN, p2, tN, xN, atI, n0, qw]
    · simp [inR, itN, upN, aboveOf, text4, docN, pN, p2, tN, xN, atI, n0]
theorem qn6 {f : List Node} (h : f.length ≤ 1000000000) (h2 : ∀ n ∈ f, n.data.length ≤ 100000 ∧ n.attrs.length ≤ 10 ∧ n.kids.length ≤ 10) : Fit f := ⟨h, fun n hn => by
  obtain ⟨a, b, c⟩ := h2 n hn
  exact ⟨by omega, by omega, by omega⟩⟩
theorem qew (s : List Int) (hs : s.length ≤ 16384) : Fit (textF s) := qn6 (by simp [textF]) (by simp [textF, docN, pN, tN, n0]; omega)
theorem cf0 {f : List Node} {h : Int} {b : Bool} (hr : rightP f) (hh : inR f h) (hd : dataB (nodeAt f h).kind) (ht : b = true → textB (nodeAt f h).kind) : cfP f h b = 0 := by
  have hfa : faultR f [h] = 0 := by
    unfold faultR
    rw [if_pos (by rw [qc]; exact hr), if_pos (by simpa using qkx.2 hh)]
  unfold cfP
  rw [hfa, if_neg (by omega), if_neg]
  rintro (h1 | ⟨h1, h2⟩)
  · rw [qh] at h1; exact h1 hd
  · rw [qh] at h2; exact h2 (ht h1)
def abc : List Int := [97, 98, 99]
theorem qgf (s : List Int) (hs : s.length ≤ 16384) (b : Bool) : cfP (textF s) 3 b = 0 := cf0 (qb6 s hs) (by simp [inR, textF]) (.inl (.inl rfl)) (fun _ => .inl rfl)
theorem qjv : ∃ L : List Change, L.length = 1 ∧ PureC Tryz.prog 19 [fav (textF abc), iav 3, u32 1, u32 9, .imm (.sl (([120] : List Int).map u16))] (.tup [fav (textF [97, 120]), .imm (.sl (L.map Change.iv)), iav 0]) := by
  have hf := qew abc (by decide)
  have hr := qb6 abc (by decide)
  have hin : inR (textF abc) 3 := by simp [inR, textF]
  have hi := inv0 hf hr hin
  have hcf := qgf abc (by decide) false
  have ep : replP (nodeAt (textF abc) 3).data 1 9 [120] = ([97, 120], 0) := by decide
  have ec : putC (textF abc) 3 1 9 [120] = daCh 3 1 2 [120] := by
    rw [qcu, ep]
    rfl
  have hcan : CanCh (textF abc) (daCh 3 1 2 [120]) := .dat _ _ _ _ hin (by decide) (by omega) (by omega) (by decide) (by decide) (by decide)
  have hd : doneG (textF abc) (daCh 3 1 2 [120]) = (textF [97, 120], 0) := by
    rw [show doneG (textF abc) (daCh 3 1 2 [120]) = doneW (textF abc) 3 [97, 120] from rfl]
    unfold doneW
    rw [show datF (textF abc) 3 [97, 120] = textF [97, 120] from rfl, if_pos (by rw [qc]; exact qb6 _ (by decide))]
  obtain ⟨b, hb⟩ := ql8 (p := pen0 (textF abc)) (h := 3) (off := 1) (cnt := 9) (v := [120]) hi (fun _ _ => by rw [show (pen0 (textF abc)).F = textF abc from rfl, ec]; exact hcan)
  have eq : putS (pen0 (textF abc)) 3 1 9 [120] = ⟨textF [97, 120], [daCh 3 1 2 [120]], 0⟩ := by
    unfold putS doS
    rw [show (pen0 (textF abc)).F = textF abc from rfl, ep, ec, hd, if_neg (by simp), if_neg (by simp [pen0]), if_neg (by simp)]
    rfl
  have := qjb (textF abc) _ b 3 [120] 1 9 hf (by omega) (by omega) (by omega) (by omega) (by simp) (fun _ => hb)
  rw [eq, hcf] at this
  unfold ansP at this
  rw [if_neg (by omega), if_neg (by simp)] at this
  exact ⟨_, rfl, this⟩
theorem qjw : ∃ (g : List Node) (L : List Change), g.length = 4 ∧ (nodeAt g 4).data = [98, 99] ∧ L.length = 5 ∧ PureC Tryz.prog 12 [fav (textF abc), iav 3, u32 1] (.tup [fav g, iav 4, .imm (.sl (L.map Change.iv)), iav 0]) := by
  have hf := qew abc (by decide)
  have hr := qb6 abc (by decide)
  have hin : inR (textF abc) 3 := by simp [inR, textF]
  have hcf := qgf abc (by decide) true
  have ht : textB (nodeAt (textF abc) 3).kind := .inl rfl
  have ho : (1 : Int) ≤ (nodeAt (textF abc) 3).data.length := by decide
  have e1 : spl1 (textF abc) 3 1 = (⟨text4 abc [98, 99] [3] 0, [mkCh 4 (restN (textF abc) 3 1)], 0⟩, true) := by
    unfold spl1 doS
    rw [if_neg (by simp [pen0])]
    have hd : doneG (pen0 (textF abc)).F (mkCh ((textF abc).length + 1) (restN (textF abc) 3 1)) = (text4 abc [98, 99] [3] 0, 0) := by
      rw [show doneG (pen0 (textF abc)).F (mkCh ((textF abc).length + 1) (restN (textF abc) 3 1)) = doneM (textF abc) (restN (textF abc) 3 1) from rfl]
      unfold doneM
      rw [if_neg (by simp [textF]), show textF abc ++ [restN (textF abc) 3 1] = text4 abc [98, 99] [3] 0 from rfl, if_pos (by rw [qc]; exact qfn _ _ (by decide) (by decide))]
    rw [hd, if_neg (by simp)]
    rfl
  have e2 : spl2 (textF abc) 3 1 = ⟨text4 abc [98, 99] [3, 4] 2, [mkCh 4 (restN (textF abc) 3 1), inCh 4 2 1], 0⟩ := by
    unfold spl2 doS
    rw [e1, if_neg (by simp)]
    have hd : doneG (text4 abc [98, 99] [3] 0) (inCh ((textF abc).length + 1) (nodeAt (textF abc) 3).parent (placeP (textF abc) 3 + 1)) = (text4 abc [98, 99] [3, 4] 2, 0) := by
      rw [show doneG (text4 abc [98, 99] [3] 0) (inCh ((textF abc).length + 1) (nodeAt (textF abc) 3).parent (placeP (textF abc) 3 + 1)) = doneA (text4 abc [98, 99] [3] 0) (inCh 4 2 1) from rfl]
      unfold doneA
      rw [show insFM (text4 abc [98, 99] [3] 0) (inCh 4 2 1).node (inCh 4 2 1).parent (inCh 4 2 1).index = text4 abc [98, 99] [3, 4] 2 from rfl, if_pos (by rw [qc]; exact qdu _ _ (by decide) (by decide))]
    simp only
    rw [hd, if_neg (by simp)]
    rfl
  have e3 : spl3 (textF abc) 3 1 = ⟨text4 abc [98, 99] [3, 4] 2, [mkCh 4 (restN (textF abc) 3 1), inCh 4 2 1, treeCh 2 4 3 0], 0⟩ := by
    unfold spl3 doS
    rw [e2, if_neg (by simp)]
    have hd : doneG (text4 abc [98, 99] [3, 4] 2) (treeCh (nodeAt (textF abc) 3).parent ((textF abc).length + 1) 3 (besideP (textF abc) 3 1)) = (text4 abc [98, 99] [3, 4] 2, 0) := by
      rw [show besideP (textF abc) 3 1 = 0 by unfold besideP; rw [if_neg (by decide), if_pos (.inr (by decide))]]
      rw [show doneG (text4 abc [98, 99] [3, 4] 2) (treeCh (nodeAt (textF abc) 3).parent ((textF abc).length + 1) 3 0) = if dec (treeP (text4 abc [98, 99] [3, 4] 2) (treeCh 2 4 3 0)) = true then (text4 abc [98, 99] [3, 4] 2, 0) else ([], 2) from rfl]
      rw [if_pos]
      rw [qc]
      exact ⟨rfl, rfl, rfl, .inr rfl, .inl rfl⟩
    simp only
    rw [hd, if_neg (by simp)]
    rw [show besideP (textF abc) 3 1 = 0 by unfold besideP; rw [if_neg (by decide), if_pos (.inr (by decide))]]
    rfl
  have e4 : spl4 (textF abc) 3 1 = ⟨text4 abc [98, 99] [3, 4] 2, [mkCh 4 (restN (textF abc) 3 1), inCh 4 2 1, treeCh 2 4 3 0, splitCh 3 4 1], 0⟩ := by
    unfold spl4
    rw [if_pos ⟨by rw [e1], by decide⟩]
    unfold doS
    rw [e3, if_neg (by simp)]
    have hd : doneG (text4 abc [98, 99] [3, 4] 2) (splitCh 3 ((textF abc).length + 1) 1) = (text4 abc [98, 99] [3, 4] 2, 0) := rfl
    simp only
    rw [hd, if_neg (by simp)]
    rfl
  have eq : splQ (textF abc) 3 1 = ⟨text4 [97] [98, 99] [3, 4] 2, [mkCh 4 (restN (textF abc) 3 1), inCh 4 2 1, treeCh 2 4 3 0, splitCh 3 4 1, daCh 3 1 2 []], 0⟩ := by
    unfold splQ putS
    rw [e4]
    have ep : replP (nodeAt (text4 abc [98, 99] [3, 4] 2) 3).data 1 (restL (textF abc) 3 1).length [] = ([97], 0) := by decide
    simp only
    rw [ep, if_neg (by simp)]
    have ec : putC (text4 abc [98, 99] [3, 4] 2) 3 1 (restL (textF abc) 3 1).length [] = daCh 3 1 2 [] := by
      rw [qcu, ep]
      rfl
    rw [ec]
    unfold doS
    rw [if_neg (by simp)]
    have hd : doneG (text4 abc [98, 99] [3, 4] 2) (daCh 3 1 2 []) = (text4 [97] [98, 99] [3, 4] 2, 0) := by
      rw [show doneG (text4 abc [98, 99] [3, 4] 2) (daCh 3 1 2 []) = doneW (text4 abc [98, 99] [3, 4] 2) 3 [97] from rfl]
      unfold doneW
      rw [show datF (text4 abc [98, 99] [3, 4] 2) 3 [97] = text4 [97] [98, 99] [3, 4] 2 from rfl, if_pos (by rw [qc]; exact qdu _ _ (by decide) (by decide))]
    simp only
    rw [hd, if_neg (by simp)]
    rfl
  have := qhc (textF abc) 3 1 hf (by omega) (by omega)
  unfold splitA at this
  rw [hcf, if_neg (by omega), if_neg (by omega), eq, if_neg (by simp)] at this
  exact ⟨_, _, rfl, rfl, rfl, this⟩
theorem qjx : PureC Tryz.prog 18 [fav (textF [97]), iav 3] (.tup [.imm (.sl (([97] : List Int).map u16)), iav 0]) := by
  have := qk9 (textF [97]) 3 (qew _ (by decide)) (qgf _ (by decide) true) (by decide)
  rw [show wholeP (textF [97]) 3 = [97] by
    unfold wholeP
    rw [if_neg (by decide)]
    have e : idx (nodeAt (textF [97]) (nodeAt (textF [97]) 3).parent).kids 3 = 0 := by decide
    rw [e]
    have t3 : txt (textF [97]) 3 = true := by unfold txt; rw [qc]; exact .inl rfl
    rw [show (nodeAt (textF [97]) (nodeAt (textF [97]) 3).parent).kids = [3] from rfl]
    simp [leftN, runGo, t3]
    rfl] at this
  exact this
theorem qnf : PureC Tryz.prog 14 [] (bav true) := by
  obtain ⟨L1, hL1, r1⟩ := qjv
  obtain ⟨g, L2, hg, hd, hL2, r2⟩ := qjw
  have r3 := qjx
  have t1 := qju abc
  have t2 := qju [97]
  have hgm : (g.map Node.iv).length = 4 := by rw [List.length_map, hg]
  have hm1 : (L1.map Change.iv).length = 1 := by rw [List.length_map, hL1]
  have hm2 : (L2.map Change.iv).length = 5 := by rw [List.length_map, hL2]
  have hg3 : (atI g 3).data = [98, 99] := by
    rw [← hd, q0 ⟨by omega, by omega⟩]
    rfl
  have s1 := ql9 [97, 120] [97, 120] (by simp) (by simp)
  have s2 := ql9 (atI g 3).data [98, 99] (by rw [hg3]; simp) (by simp)
  rw [show dec (([97, 120] : List Int) = [97, 120]) = true by rw [qc]] at s1
  rw [show dec ((atI g 3).data = [98, 99]) = true by rw [qc]; exact hg3] at s2
  have ht3 : (textF [97, 120]).length = 3 := rfl
  have hx2 : (atI (textF [97, 120]) 2).data = [97, 120] := rfl
  have hm3 : ((textF [97, 120]).map Node.iv).length = 3 := rfl
  refine yq tabs Tryz.func14 89 [.tmp 0] rfl rfl rfl rfl rfl ?_; intro w0 X
  (repeat' (first | ((with_reducible show AL _ _ _ _ _); first | refine AL.give 0 (h1 := []) (env1 := [(11, .imm (.sl (abc.map u16)))]) (abc.map u16) rfl rfl ⟨⟨_, rfl, rfl⟩, trivial⟩ rfl rfl rfl (Nat.zero_le _) ?_ | refine AL.give 0 (h1 := []) (env1 := [(12, fav (textF abc)), (13, .imm (.sl (([120] : List Int).map u16)))]) (([120] : List Int).map u16) rfl rfl ⟨⟨_, rfl, rfl⟩, ⟨_, rfl, rfl⟩, trivial⟩ rfl rfl rfl (Nat.zero_le _) ?_ | refine AL.give 1 (h1 := [⟨24, 1, [[.imm (.sl ((textF [97, 120]).map Node.iv))]]⟩]) (env1 := [(1, .ptr 0 1 0 0), (2, .imm (.sl ((L1).map Change.iv))), (3, iav 0), (19, .imm (.sl (abc.map u16)))]) (abc.map u16) rfl rfl ⟨⟨_, rfl, rfl⟩, ⟨_, rfl, rfl⟩, ⟨_, rfl, rfl⟩, ⟨_, rfl, rfl⟩, trivial⟩ rfl rfl rfl (Nat.zero_le _) ?_ | refine AL.give 2 (h1 := [⟨24, 1, [[.imm (.sl ((textF [97, 120]).map Node.iv))]]⟩, ⟨24, 1, [[.imm (.sl ((g).map Node.iv))]]⟩]) (env1 := [(1, .ptr 0 1 0 0), (2, .imm (.sl ((L1).map Change.iv))), (3, iav 0), (4, .ptr 1 1 0 0), (5, iav 4), (6, .imm (.sl ((L2).map Change.iv))), (7, iav 0), (27, .imm (.sl (([97] : List Int).map u16)))]) (([97] : List Int).map u16) rfl rfl ⟨⟨_, rfl, rfl⟩, ⟨_, rfl, rfl⟩, ⟨_, rfl, rfl⟩, ⟨_, rfl, rfl⟩, ⟨_, rfl, rfl⟩, ⟨_, rfl, rfl⟩, ⟨_, rfl, rfl⟩, ⟨_, rfl, rfl⟩, trivial⟩ rfl rfl rfl (Nat.zero_le _) ?_ | (refine yg tabs rfl ?_; try dsimp only [len, List.nil_append, List.cons_append]) | refine AL.op rfl (ye rfl rfl rfl rfl t1 rfl) ?_ | refine AL.op rfl (ye rfl rfl rfl rfl t2 rfl) ?_ | refine AL.op rfl (OpOK.callfz rfl rfl rfl rfl s1 rfl rfl) ?_ | refine AL.op rfl (OpOK.callfz rfl rfl rfl rfl s2 rfl rfl) ?_ | refine AL.op rfl (ye rfl rfl rfl rfl r1 rfl) ?_ | refine AL.op rfl (ye rfl rfl rfl rfl r2 rfl) ?_ | refine AL.op rfl (ye rfl rfl rfl rfl r3 rfl) ?_ | refine yo ?_ | (refine yn rfl rfl rfl (fun hc => ?_) (fun hc => ?_) <;> (fail_if_success (exact absurd hc (by decide))) <;> (try simp only [hsx] at hc) <;> (try first | omega | contradiction | (simp [qa] at hc; done))) | (refine AL.op rfl (yd tabs rfl rfl rfl rfl rfl rfl rfl (fun _ => rfl) (by decide) (by omega) (by omega)) ?_)) | refine ym ?_ | refine ya ?_ | refine yb ?_ | refine yh ?_ | refine yj rfl ?_ | refine yi rfl ?_ | (refine yk rfl (fun hc => ?_) (fun hc => ?_) <;> (try simp only [hsx] at hc) <;> (try first | omega | contradiction | (simp [qa] at hc; done))) | refine yp ?_ | refine yc ?_))
  refine RQ.fin rfl rfl (congrArg bav ?_); simp [qa]
open Go.RowKit
section
variable {C : Cx} {s : St} {o : Oper} {T : List (Nat × TI)} {l : List Oper}
theorem LS.lit0 (hT : TsOK C.P T) (hw : awant l s o = some true) (hd : dok C.nt o.dst = true) {t e : TypeId} {ps : Array (Nat × Operand)} (ho : o.op = .buildSlice t 0 ps) (hp : ps.toList = []) {i ie : TI} (hi : look T t = some i) (hk : i.kd = .sl e) (hie : look T e = some ie) : LS C l s o (mkFx l s o (.val .nocap) []) :=
  yav [] hw fun s' hl => OpOK.lit0 hT hd ho hp hi hk hie
theorem LS.nocap0_imm (hT : TsOK C.P T) (hw : awant l s o = some true) (hd : dok C.nt o.dst = true) {x y : Operand} {t tx e e2 : TypeId} (ho : o.op = .call ⟨.builtin .append, #[x, y], #[t, tx]⟩) {i i2 ie : TI} (hi : look T t = some i) (hk : i.kd = .sl e) (hie : look T e = some ie) (hx : s.ev x = some .nocap) (hi2 : look T tx = some i2) (hk2 : i2.kd = .sl e2) {rows : List (List IV)} (hy : s.ev y = some (.imm (.sl rows))) (h0 : rows = []) : LS C l s o (mkFx l s o (.val .nocap) []) :=
  yav [] hw fun s' hl => by
    have hxm : x ∈ o.op.operands.toList := by rw [ho]; simp [Op.operands, Call.operands]
    have hym : y ∈ o.op.operands.toList := by rw [ho]; simp [Op.operands, Call.operands]
    subst h0
    exact OpOK.append_nocap0 hT hd ho hi hk hie ((hl.ev x hxm).trans hx) (SrcA.imm (rows := []) hT hi2 hk2 ((hl.ev y hym).trans hy) (fun r hr => by cases hr))
theorem LS.nocap_imm (p : Nat) (hT : TsOK C.P T) (hw : awant l s o = some true) (hd : dok C.nt o.dst = true) {x y : Operand} {t tx e e2 : TypeId} (ho : o.op = .call ⟨.builtin .append, #[x, y], #[t, tx]⟩) {i i2 ie : TI} (hi : look T t = some i) (hk : i.kd = .sl e) (hie : look T e = some ie) (hpos : 0 < ie.sz) (hx : s.ev x = some .nocap)
    {sz : Nat} (hp : nth s.hp p = some ⟨e, sz, []⟩) (hsz : sz = ie.sz) (hi2 : look T tx = some i2) (hk2 : i2.kd = .sl e2) {rows : List (List IV)} (hy : s.ev y = some (.imm (.sl rows))) (hne : rows ≠ []) (hrl : ∀ r ∈ rows, r.length = ie.sz) (hbound : rows.length * ie.bytes ≤ 140737488355328) (h63 : rows.length ≤ 9223372036854775807) :
    LS C l s o (mkFx l s o (.blk p ⟨e, sz, rows.map (·.map .imm)⟩ (.os p rows.length)) [p]) :=
  LS.blk [p] hw fun s' hl => by
    have hxm : x ∈ o.op.operands.toList := by rw [ho]; simp [Op.operands, Call.operands]
    have hym : y ∈ o.op.operands.toList := by rw [ho]; simp [Op.operands, Call.operands]
    have := yar p hT hd ho hi hk hie hpos ((hl.ev x hxm).trans hx) ((hl.xb p (by simp)).trans hp) hsz (by simpa using hne) (SrcA.imm (rows := rows) hT hi2 hk2 ((hl.ev y hym).trans hy) hrl) (by simpa using hbound) (by simpa using h63)
    rw [List.length_map] at this
    exact this
end
section
variable {f g : List Node} {h off : Int} (hr : rightP f) (hh : inR f h) (ht : textB (nodeAt f h).kind) (h0 : 0 ≤ off) (ho : off ≤ (nodeAt f h).data.length) (hdl : (nodeAt f h).data.length ≤ 1000000000) (S : SplitO f h off g)
include hr hh ht h0 ho hdl S
end
set_option maxHeartbeats 4000000
set_option linter.unusedVariables false
set_option linter.unusedSimpArgs false
set_option maxRecDepth 100000
set_option maxHeartbeats 4000000
section
variable {f : List Node} {h off : Int} (hf : Fit f) (hr : rightP f) (hh : inR f h) (ht : textB (nodeAt f h).kind) (h0 : 0 ≤ off) (ho : off ≤ (nodeAt f h).data.length)
include hf hr hh ht h0 ho
end
theorem qlj {l : List Int} {off cnt : Int} {v : List Int} (h0 : 0 ≤ off) (h2 : 0 ≤ cnt) (h : (replP l off cnt v).2 = 0) : off ≤ l.length ∧ (l.length : Int) - (spTo l.length off cnt - off) + v.length ≤ 16384 ∧ replP l off cnt v = (replL l off (spTo l.length off cnt) v, 0) ∧ off ≤ spTo l.length off cnt ∧ spTo l.length off cnt ≤ l.length := by
  unfold replP at h ⊢
  split at h
  · cases h
  · rename_i h1
    split at h
    · cases h
    · rename_i h3
      rw [if_neg h1, if_neg h3]
      refine ⟨by omega, by omega, rfl, ?_, ?_⟩ <;> unfold spTo <;> omega
theorem qgg : Fit [] := ⟨by simp, fun n hn => by cases hn⟩
set_option maxHeartbeats 4000000
set_option linter.unusedVariables false
set_option linter.unusedSimpArgs false
set_option maxRecDepth 100000
set_option maxHeartbeats 4000000
set_option linter.unusedVariables false
set_option linter.unusedSimpArgs false
set_option maxRecDepth 100000
set_option maxHeartbeats 4000000
open Go.RowKit
set_option linter.unusedVariables false
set_option linter.unusedSimpArgs false
set_option maxRecDepth 100000
set_option maxHeartbeats 4000000
theorem LS.nocap_at {C : Cx} {s : St} {o : Oper} {T : List (Nat × TI)} {l : List Oper} (p : Nat) (hT : TsOK C.P T) (hw : awant l s o = some true) (hd : dok C.nt o.dst = true) {x y : Operand} {t tx e : TypeId} (ho : o.op = .call ⟨.builtin .append, #[x, y], #[t, tx]⟩) {i ie : TI} (hi : look T t = some i) (hk : i.kd = .sl e) (hie : look T e = some ie) (hpos : 0 < ie.sz) (hx : s.ev x = some .nocap)
    {sz : Nat} (hp : nth s.hp p = some ⟨e, sz, []⟩) (hsz : sz = ie.sz) {rows2 : List (List AV)} (hne : rows2 ≠ []) (hsrc : ∀ s', Loc l s s' o [p] → SrcA C s' ie tx y rows2) (hbound : rows2.length * ie.bytes ≤ 140737488355328) (h63 : rows2.length ≤ 9223372036854775807) :
    LS C l s o (mkFx l s o (.blk p ⟨e, sz, rows2⟩ (.os p rows2.length)) [p]) :=
  LS.blk [p] hw fun s' hl => by
    have hxm : x ∈ o.op.operands.toList := by rw [ho]; simp [Op.operands, Call.operands]
    exact yar p hT hd ho hi hk hie hpos ((hl.ev x hxm).trans hx) ((hl.xb p (by simp)).trans hp) hsz hne (hsrc s' hl) hbound h63
def actA (p : PS) : AV := .agg [.imm (.sl (p.F.map Node.iv)), .imm (.sl (p.L.map Change.iv)), iav p.why]
theorem CanCh.fitC {f : List Node} {c : Change} (h : CanCh f c) : FitC c := by
  cases h with
  | mk n hn h12 => exact ⟨by simp [mkCh, c0], hn, by simp [mkCh, c0], by simp [mkCh, c0]⟩
  | ins x p i hx hp i0 i1 hp0 => exact ⟨by simp [inCh, c0], fit0, by simp [inCh, c0], by simp [inCh, c0]⟩
  | dat h off cnt v hh hd o0 c0' oc hv ho => exact ⟨by show v.length ≤ _; omega, fit0, by simp [daCh, c0], by simp [daCh, c0]⟩
  | spl a b c => exact ⟨by simp [splitCh, c0], fit0, by simp [splitCh, c0], by simp [splitCh, c0]⟩
  | tree a b c d => exact ⟨by simp [treeCh, c0], fit0, by simp [treeCh], by simp [treeCh, c0]⟩
theorem qlk (f : List Node) (hf : Fit f) : PureC Tryz.prog 54 [fav f] (actA (pen0 f)) := by
  have c1 := qiq f hf
  refine yq tabs Tryz.func54 6 [.cell 2 87] rfl rfl rfl rfl rfl ?_; intro w0 X
  (repeat' (first | ((with_reducible show AL _ _ _ _ _); first | (refine yg tabs rfl ?_; try dsimp only [len, List.nil_append, List.cons_append]) | refine AL.op rfl (ye rfl rfl rfl rfl c1 rfl) ?_ | refine yo ?_) | refine ym ?_ | refine ya ?_ | refine yb ?_ | refine yh ?_ | refine yp ?_ | refine yc ?_))
  exact RQ.fin rfl rfl rfl
theorem qhv (p : PS) (c : Change) (hp : InvP p) (hL : p.L.length ≤ 1000) (hc : p.why = 0 → CanCh p.F c) : PureC Tryz.prog 89 [actA p, c.av] (actA (doS p c).1) := by
  by_cases h0 : p.why = 0
  · have hcc := hc h0
    have c1 := qli p.F c hp.fit hp.right hp.pos hcc hcc.fitC
    have c2 := qes c hcc.fitC
    obtain ⟨F, L, why⟩ := p
    simp only at h0 c1 hL
    subst h0
    have e : (doS ⟨F, L, 0⟩ c).1 = if (doneG F c).2 ≠ 0 then ⟨F, L, (doneG F c).2⟩ else ⟨(doneG F c).1, L ++ [c], 0⟩ := by
      unfold doS
      simp only [ne_eq, not_true_eq_false, if_false]
      split <;> rfl
    rw [e]
    clear e hc hcc hp
    obtain ⟨⟨g, w⟩, hgw⟩ : ∃ x, x = doneG F c := ⟨_, rfl⟩
    rw [← hgw] at c1 ⊢
    simp only at c1 ⊢
    clear hgw
    have hcl : (L.map Change.iv).length = L.length := List.length_map _
    by_cases hw : w = 0
    · subst hw
      rw [if_neg (by simp)]
      by_cases hl : L = []
      · refine yq tabs Tryz.func89 36 [.cell 4 87] rfl rfl rfl rfl rfl ?_; intro w0 X
        refine AW.reserve 58 36 rfl ?_
        refine AW.reserve 58 36 rfl ?_
        (repeat' (first | ((with_reducible show AL _ _ _ _ _); first | (refine yg tabs rfl ?_; try dsimp only [len, List.nil_append, List.cons_append]) | refine AL.op rfl (ye rfl rfl rfl rfl c1 rfl) ?_ | refine yo ?_) | ((with_reducible show DQ _ _ _ _ _ _); first | refine DQ.stepc (LS.lit0 tabs rfl rfl rfl rfl rfl rfl rfl) rfl rfl rfl rfl rfl ?_ | refine DQ.stepc (LS.nocap0_imm tabs rfl rfl rfl rfl rfl rfl rfl rfl rfl rfl (by rw [hl]; rfl)) rfl rfl rfl rfl rfl ?_ | refine DQ.stepc (yah rfl rfl rfl rfl rfl c2 rfl) rfl rfl rfl rfl rfl ?_ | refine DQ.stepc (LS.lit 1 tabs rfl rfl rfl rfl rfl rfl rfl rfl rfl rfl rfl rfl) rfl rfl rfl rfl rfl ?_ | refine DQ.stepc (LS.nocap_at 0 (ie := ti58) (sz := 36) (rows2 := [rowC c]) tabs rfl rfl rfl rfl rfl rfl (by decide) rfl rfl rfl (by simp) (fun s' hl => hl.srcOwn (by simp [Op.operands, Call.operands]) tabs rfl rfl (b := ⟨58, 36, [rowC c]⟩) rfl rfl rfl rfl (by simp [rowC, Change.iv, ti58]) (by simp [rowC, Change.iv, AV.cell])) (by simp [ti58]) (by simp)) rfl rfl rfl rfl rfl ?_ | refine DQ.stepc (LS.store (i := ti87) (v := .agg [.imm (.sl (g.map Node.iv)), .os 0 1, iav 0]) (ty := 87) (sz := 3) (rows := [ti87.zero]) (r := ti87.zero) tabs rfl rfl rfl rfl rfl rfl rfl rfl rfl rfl (Nat.le_of_ble_eq_true rfl) rfl) rfl rfl rfl rfl rfl ?_ | refine DQ.stepc (LS.val tabs rfl rfl rfl) rfl rfl rfl rfl rfl ?_ | refine DQ.stepc (yy rfl rfl) rfl rfl rfl rfl rfl ?_ | refine DQ.nilM (by kernel_rfl) ?_) | (exfalso; omega) | refine ym ?_ | refine ya ?_ | refine yb ?_ | refine yh ?_ | refine yj rfl ?_ | refine yi rfl ?_ | (refine yk rfl (fun hc => ?_) (fun hc => ?_) <;> (try simp only [hsx] at hc) <;> (try first | omega | contradiction | (simp [qa] at hc; done))) | refine yp ?_ | refine yc ?_ | refine yt mixed (by kernel_rfl) ?_))
        refine yas rfl (Fz.agg (.cons (Fz.im rfl) (.cons (Fz.os (b := ⟨58, 36, [rowC c]⟩) (rows := (L ++ [c]).map Change.iv) rfl rfl ?_) (.cons (Fz.im rfl) .nil))))
        rw [hl]; rfl
      · refine yq tabs Tryz.func89 36 [.cell 4 87] rfl rfl rfl rfl rfl ?_; intro w0 X
        refine AW.reserve 58 36 rfl ?_
        refine AW.reserve 58 36 rfl ?_
        (repeat' (first | ((with_reducible show AL _ _ _ _ _); first | (refine yg tabs rfl ?_; try dsimp only [len, List.nil_append, List.cons_append]) | refine AL.op rfl (ye rfl rfl rfl rfl c1 rfl) ?_ | refine yo ?_) | ((with_reducible show DQ _ _ _ _ _ _); first | refine DQ.stepc (LS.lit0 tabs rfl rfl rfl rfl rfl rfl rfl) rfl rfl rfl rfl rfl ?_ | refine DQ.stepc (LS.nocap_imm 0 (rows := L.map Change.iv) (ie := ti58) tabs rfl rfl rfl rfl rfl rfl (by decide) rfl rfl rfl rfl rfl rfl (by simpa using hl) (fun r hr => by obtain ⟨q, _, rfl⟩ := List.mem_map.1 hr; rfl) (by simp [ti58]; omega) (by simp; omega)) rfl rfl rfl rfl rfl ?_ | refine DQ.stepc (yah rfl rfl rfl rfl rfl c2 rfl) rfl rfl rfl rfl rfl ?_ | refine DQ.stepc (LS.lit 1 tabs rfl rfl rfl rfl rfl rfl rfl rfl rfl rfl rfl rfl) rfl rfl rfl rfl rfl ?_ | refine DQ.stepc (yaw (ie := ti58) (ty := 58) (sz := 36) (rows := (L.map Change.iv).map (·.map .imm)) (rows2 := [rowC c]) tabs rfl rfl rfl rfl rfl rfl rfl rfl (by simp) rfl rfl (fun s' hl => hl.srcOwn (by simp [Op.operands, Call.operands]) tabs rfl rfl (b := ⟨58, 36, [rowC c]⟩) rfl rfl rfl rfl (by simp [rowC, Change.iv, ti58]) (by simp [rowC, Change.iv, AV.cell])) (by simp [ti58]; omega) (by simp; omega)) rfl rfl rfl rfl rfl ?_ | refine DQ.stepc (LS.store (i := ti87) (v := .agg [.imm (.sl (g.map Node.iv)), .os 0 ((L.map Change.iv).length + 1), iav 0]) (ty := 87) (sz := 3) (rows := [ti87.zero]) (r := ti87.zero) tabs rfl rfl rfl rfl rfl rfl rfl rfl rfl rfl (Nat.le_of_ble_eq_true rfl) rfl) rfl rfl rfl rfl rfl ?_ | refine DQ.stepc (LS.val tabs rfl rfl rfl) rfl rfl rfl rfl rfl ?_ | refine DQ.stepc (yy rfl rfl) rfl rfl rfl rfl rfl ?_ | refine DQ.nilM (by kernel_rfl) ?_) | (exfalso; omega) | refine ym ?_ | refine ya ?_ | refine yb ?_ | refine yh ?_ | refine yj rfl ?_ | refine yi rfl ?_ | (refine yk rfl (fun hc => ?_) (fun hc => ?_) <;> (try simp only [hsx] at hc) <;> (try first | omega | contradiction | (simp [qa] at hc; done))) | refine yp ?_ | refine yc ?_ | refine yt mixed (by kernel_rfl) ?_))
        refine yas rfl (Fz.agg (.cons (Fz.im rfl) (.cons (Fz.os (b := ⟨58, 36, (L.map Change.iv).map (·.map .imm) ++ [rowC c]⟩) (rows := (L ++ [c]).map Change.iv) rfl ?_ ?_) (.cons (Fz.im rfl) .nil))))
        · simp
        · simp [rowC]
    · rw [if_pos (by omega)]
      refine yq tabs Tryz.func89 36 [.cell 4 87] rfl rfl rfl rfl rfl ?_; intro w0 X
      (repeat' (first | ((with_reducible show AL _ _ _ _ _); first | (refine yg tabs rfl ?_; try dsimp only [len, List.nil_append, List.cons_append]) | refine AL.op rfl (ye rfl rfl rfl rfl c1 rfl) ?_ | refine yo ?_) | ((with_reducible show DQ _ _ _ _ _ _); first | refine DQ.stepc (LS.val tabs rfl rfl rfl) rfl rfl rfl rfl rfl ?_ | refine DQ.stepc (yy rfl rfl) rfl rfl rfl rfl rfl ?_ | refine DQ.nilM (by kernel_rfl) ?_) | (exfalso; omega) | refine ym ?_ | refine ya ?_ | refine yb ?_ | refine yh ?_ | refine yj rfl ?_ | refine yi rfl ?_ | (refine yk rfl (fun hc => ?_) (fun hc => ?_) <;> (try simp only [hsx] at hc) <;> (try first | omega | contradiction | (simp [qa] at hc; done))) | refine yp ?_ | refine yc ?_ | refine yt mixed (by kernel_rfl) ?_))
      exact RQ.fin rfl rfl rfl
  · have e : (doS p c).1 = p := by unfold doS; rw [if_pos h0]
    rw [e]
    refine yq tabs Tryz.func89 36 [.cell 4 87] rfl rfl rfl rfl rfl ?_; intro w0 X
    (repeat' (first | ((with_reducible show AL _ _ _ _ _); first | (refine yg tabs rfl ?_; try dsimp only [len, List.nil_append, List.cons_append]) | refine yo ?_) | ((with_reducible show DQ _ _ _ _ _ _); first | refine DQ.stepc (LS.val tabs rfl rfl rfl) rfl rfl rfl rfl rfl ?_ | refine DQ.stepc (yy rfl rfl) rfl rfl rfl rfl rfl ?_ | refine DQ.nilM (by kernel_rfl) ?_) | (exfalso; omega) | refine ym ?_ | refine ya ?_ | refine yb ?_ | refine yh ?_ | refine yj rfl ?_ | refine yi rfl ?_ | (refine yk rfl (fun hc => ?_) (fun hc => ?_) <;> (try simp only [hsx] at hc) <;> (try first | omega | contradiction | (simp [qa] at hc; done))) | refine yp ?_ | refine yc ?_ | refine yt mixed (by kernel_rfl) ?_))
    exact RQ.fin rfl rfl rfl
noncomputable def endA (p : PS) : AV := if p.why ≠ 0 then .tup [fav [], .imm (.sl []), iav p.why] else .tup [fav p.F, .imm (.sl (p.L.map Change.iv)), iav 0]
theorem qn7 (p : PS) : PureC Tryz.prog 55 [actA p] (endA p) := by
  unfold endA
  by_cases h0 : p.why = 0
  · rw [if_neg (by omega)]
    refine yq tabs Tryz.func55 15 [.cell 2 24, .tmp 3, .tmp 4] rfl rfl rfl rfl rfl ?_; intro w0 X
    (repeat' (first | ((with_reducible show AL _ _ _ _ _); first | (refine yg tabs rfl ?_; try dsimp only [len, List.nil_append, List.cons_append]) | refine yo ?_) | ((with_reducible show DQ _ _ _ _ _ _); first | refine DQ.stepc (LS.store (i := ti24) (v := fav p.F) (ty := 24) (sz := 1) (rows := [ti24.zero]) (r := ti24.zero) tabs rfl rfl rfl rfl rfl rfl rfl rfl rfl rfl (Nat.le_of_ble_eq_true rfl) rfl) rfl rfl rfl rfl rfl ?_ | refine DQ.stepc (LS.val tabs rfl rfl rfl) rfl rfl rfl rfl rfl ?_ | refine DQ.stepc (yy rfl rfl) rfl rfl rfl rfl rfl ?_ | refine DQ.nilM (by kernel_rfl) ?_) | (exfalso; omega) | refine ym ?_ | refine ya ?_ | refine yb ?_ | refine yh ?_ | refine yj rfl ?_ | refine yi rfl ?_ | (refine yk rfl (fun hc => ?_) (fun hc => ?_) <;> (try simp only [hsx] at hc) <;> (try first | omega | contradiction | (simp [qa] at hc; done))) | refine yp ?_ | refine yc ?_ | refine yt mixed (by kernel_rfl) ?_))
    exact RQ.fin rfl rfl rfl
  · rw [if_pos h0]
    refine yq tabs Tryz.func55 15 [.cell 2 24, .tmp 3, .tmp 4] rfl rfl rfl rfl rfl ?_; intro w0 X
    (repeat' (first | ((with_reducible show AL _ _ _ _ _); first | (refine yg tabs rfl ?_; try dsimp only [len, List.nil_append, List.cons_append]) | refine yo ?_) | ((with_reducible show DQ _ _ _ _ _ _); first | refine DQ.stepc (LS.store (i := ti24) (v := .agg [.nils]) (ty := 24) (sz := 1) (rows := [ti24.zero]) (r := ti24.zero) tabs rfl rfl rfl rfl rfl rfl rfl rfl rfl rfl (Nat.le_of_ble_eq_true rfl) rfl) rfl rfl rfl rfl rfl ?_ | refine DQ.stepc (LS.val tabs rfl rfl rfl) rfl rfl rfl rfl rfl ?_ | refine DQ.stepc (yy rfl rfl) rfl rfl rfl rfl rfl ?_ | refine DQ.nilM (by kernel_rfl) ?_) | (exfalso; omega) | refine ym ?_ | refine ya ?_ | refine yb ?_ | refine yh ?_ | refine yj rfl ?_ | refine yi rfl ?_ | (refine yk rfl (fun hc => ?_) (fun hc => ?_) <;> (try simp only [hsx] at hc) <;> (try first | omega | contradiction | (simp [qa] at hc; done))) | refine yp ?_ | refine yc ?_ | refine yt mixed (by kernel_rfl) ?_))
    exact RQ.fin rfl rfl rfl
theorem PureC.cv {P : Program} {f : FuncId} {aa ab : List AV} {r : AV} (h : PureC P f aa r) (e : ab.map A.cv = aa) : PureC P f ab r :=
  ⟨h.1, fun W X xs hX hx => h.2 W X xs hX (by rw [← e]; exact qh2 hx)⟩
noncomputable def rputS (p : PS) (h off cnt : Int) (v : List Int) : PS := if p.why ≠ 0 then p else putS p h off cnt v
theorem qhw (l : List Int) (off cnt : Int) (h0 : 0 ≤ off) (h2 : 0 ≤ cnt) (h : off ≤ l.length) : ((subP l off cnt).length : Int) = spTo l.length off cnt - off := by
  have hs0 : off ≤ spTo l.length off cnt := by unfold spTo; omega
  have hs1 : spTo l.length off cnt ≤ l.length := by unfold spTo; omega
  unfold subP
  simp only [List.length_drop, List.length_take]
  omega
theorem qgh (p : PS) (h off cnt : Int) (v : List Int) (hp : InvP p) (hL : p.L.length ≤ 1000) (h0 : 0 ≤ off) (h1 : off < 4294967296) (h2 : 0 ≤ cnt) (h3 : cnt < 4294967296) (hv : v.length ≤ 1000000000) (hc : p.why = 0 → (replP (nodeAt p.F h).data off cnt v).2 = 0 → CanCh p.F (putC p.F h off cnt v)) : PureC Tryz.prog 64 [actA p, iav h, u32 off, u32 cnt, .imm (.sl (v.map u16))] (actA (rputS p h off cnt v)) := by
  by_cases hw : p.why = 0
  · have cN := qaf p.F h hp.fit.len
    have hdl := (hp.fit.at h).data
    have cS := qny (nodeAt p.F h).data off cnt h0 h1 h2 h3 hdl
    have cD : (replP (nodeAt p.F h).data off cnt v).2 = 0 → PureC Tryz.prog 89 [actA p, (putC p.F h off cnt v).av] (actA (doS p (putC p.F h off cnt v)).1) := fun hre => qhv p _ hp hL fun hw' => hc hw' hre
    rw [show rputS p h off cnt v = putS p h off cnt v by unfold rputS; rw [if_neg (by omega)]]
    unfold putS
    have hsl := qhw (nodeAt p.F h).data off cnt h0 h2
    have hrp : replP (nodeAt p.F h).data off cnt v = if ((nodeAt p.F h).data.length : Int) < off then ([], 14) else if 16384 < ((nodeAt p.F h).data.length : Int) - (spTo (nodeAt p.F h).data.length off cnt - off) + v.length then ([], 4) else (replL (nodeAt p.F h).data off (spTo (nodeAt p.F h).data.length off cnt) v, 0) := rfl
    have hpc : putC p.F h off cnt v = daCh h off (((nodeAt p.F h).data.length : Int) + v.length - (replP (nodeAt p.F h).data off cnt v).1.length) v := qcu _ _ _ _ _
    have hok := fun hre => (qlj (v := v) h0 h2 hre : off ≤ (nodeAt p.F h).data.length ∧ _)
    obtain ⟨n, hn⟩ : ∃ n, n = nodeAt p.F h := ⟨_, rfl⟩
    rw [← hn] at cN cS hsl hrp hpc hdl cD hok ⊢
    have hml : (n.data.map u16).length = n.data.length := List.length_map _
    have hvl : (v.map u16).length = v.length := List.length_map _
    have hbl : ((subP n.data off cnt).map u16).length = (subP n.data off cnt).length := List.length_map _
    by_cases ho : off ≤ n.data.length
    · rw [if_pos ho, if_pos ho] at cS
      have hsl := hsl ho
      by_cases h16 : 16384 < (n.data.length : Int) - (spTo n.data.length off cnt - off) + v.length
      · rw [show replP n.data off cnt v = ([], 4) by rw [hrp, if_neg (by omega), if_pos h16], if_pos (by simp)]
        rw [show refP p ([], (4 : Int)).2 = ⟨p.F, p.L, 4⟩ by unfold refP; rw [if_pos hw]]
        refine yq tabs Tryz.func64 62 [.cell 10 87] rfl rfl rfl rfl rfl ?_; intro w0 X
        (repeat' (first | ((with_reducible show AL _ _ _ _ _); first | (refine yg tabs rfl ?_; try dsimp only [len, List.nil_append, List.cons_append]) | refine AL.op rfl (ye rfl rfl rfl rfl cN rfl) ?_ | refine AL.op rfl (ye rfl rfl rfl rfl cS rfl) ?_ | (refine AL.op rfl (yf rfl rfl rfl rfl rfl (by omega) (by omega)) ?_) | refine yo ?_ | (refine yn rfl rfl rfl (fun hc => ?_) (fun hc => ?_) <;> (fail_if_success (exact absurd hc (by decide))) <;> (try simp only [hsx] at hc) <;> (try first | omega | contradiction | (simp [qa] at hc; done))) | (refine AL.op rfl (yf rfl rfl rfl rfl rfl (by omega) (by omega)) ?_)) | (exfalso; omega) | refine ym ?_ | refine ya ?_ | refine yb ?_ | refine yh ?_ | refine yj rfl ?_ | refine yi rfl ?_ | (refine yk rfl (fun hc => ?_) (fun hc => ?_) <;> (try simp only [hsx] at hc) <;> (try first | omega | contradiction | (simp [qa] at hc; done))) | refine yp ?_ | refine yc ?_))
        exact RQ.fin rfl rfl rfl
      · have e2 : (replP n.data off cnt v).2 = 0 := by rw [hrp, if_neg (by omega), if_neg h16]
        have cD := cD e2
        rw [if_neg (by omega)]
        have ec : putC p.F h off cnt v = daCh h off ((subP n.data off cnt).map u16).length v := by
          rw [hpc, (hok e2).2.2.1]
          congr 1
          unfold replL
          simp only [List.length_append, List.length_take, List.length_drop]
          have := (hok e2).2.2.2
          omega
        rw [ec] at cD ⊢
        refine yq tabs Tryz.func64 62 [.cell 10 87] rfl rfl rfl rfl rfl ?_; intro w0 X
        (repeat' (first | ((with_reducible show AL _ _ _ _ _); first | refine AL.op rfl (OpOK.toI64 tabs rfl rfl rfl rfl rfl rfl (by omega) (by omega)) ?_ | (refine yg tabs rfl ?_; try dsimp only [len, List.nil_append, List.cons_append]) | refine AL.op rfl (ye rfl rfl rfl rfl cN rfl) ?_ | refine AL.op rfl (ye rfl rfl rfl rfl cS rfl) ?_ | (refine AL.op rfl (yf rfl rfl rfl rfl rfl (by omega) (by omega)) ?_) | refine AL.op rfl (OpOK.callcv rfl rfl rfl rfl rfl cD rfl) ?_ | refine yo ?_ | (refine yn rfl rfl rfl (fun hc => ?_) (fun hc => ?_) <;> (fail_if_success (exact absurd hc (by decide))) <;> (try simp only [hsx] at hc) <;> (try first | omega | contradiction | (simp [qa] at hc; done))) | (refine AL.op rfl (yf rfl rfl rfl rfl rfl (by omega) (by omega)) ?_)) | (exfalso; omega) | refine ym ?_ | refine ya ?_ | refine yb ?_ | refine yh ?_ | refine yj rfl ?_ | refine yi rfl ?_ | (refine yk rfl (fun hc => ?_) (fun hc => ?_) <;> (try simp only [hsx] at hc) <;> (try first | omega | contradiction | (simp [qa] at hc; done))) | refine yp ?_ | refine yc ?_))
        exact RQ.fin rfl rfl rfl
    · rw [if_neg ho, if_neg ho] at cS
      rw [show replP n.data off cnt v = ([], 14) by rw [hrp, if_pos (by omega)], if_pos (by simp)]
      rw [show refP p ([], (14 : Int)).2 = ⟨p.F, p.L, 14⟩ by unfold refP; rw [if_pos hw]]
      refine yq tabs Tryz.func64 62 [.cell 10 87] rfl rfl rfl rfl rfl ?_; intro w0 X
      (repeat' (first | ((with_reducible show AL _ _ _ _ _); first | (refine yg tabs rfl ?_; try dsimp only [len, List.nil_append, List.cons_append]) | refine AL.op rfl (ye rfl rfl rfl rfl cN rfl) ?_ | refine AL.op rfl (ye rfl rfl rfl rfl cS rfl) ?_ | refine yo ?_ | (refine yn rfl rfl rfl (fun hc => ?_) (fun hc => ?_) <;> (fail_if_success (exact absurd hc (by decide))) <;> (try simp only [hsx] at hc) <;> (try first | omega | contradiction | (simp [qa] at hc; done))) | (refine AL.op rfl (yf rfl rfl rfl rfl rfl (by omega) (by omega)) ?_)) | (exfalso; omega) | refine ym ?_ | refine ya ?_ | refine yb ?_ | refine yh ?_ | refine yj rfl ?_ | refine yi rfl ?_ | (refine yk rfl (fun hc => ?_) (fun hc => ?_) <;> (try simp only [hsx] at hc) <;> (try first | omega | contradiction | (simp [qa] at hc; done))) | refine yp ?_ | refine yc ?_))
      exact RQ.fin rfl rfl rfl
  · rw [show rputS p h off cnt v = p by unfold rputS; rw [if_pos hw]]
    refine yq tabs Tryz.func64 62 [.cell 10 87] rfl rfl rfl rfl rfl ?_; intro w0 X
    (repeat' (first | ((with_reducible show AL _ _ _ _ _); first | (refine yg tabs rfl ?_; try dsimp only [len, List.nil_append, List.cons_append]) | refine yo ?_ | (refine yn rfl rfl rfl (fun hc => ?_) (fun hc => ?_) <;> (fail_if_success (exact absurd hc (by decide))) <;> (try simp only [hsx] at hc) <;> (try first | omega | contradiction | (simp [qa] at hc; done))) | (refine AL.op rfl (yf rfl rfl rfl rfl rfl (by omega) (by omega)) ?_)) | (exfalso; omega) | refine ym ?_ | refine ya ?_ | refine yb ?_ | refine yh ?_ | refine yj rfl ?_ | refine yi rfl ?_ | (refine yk rfl (fun hc => ?_) (fun hc => ?_) <;> (try simp only [hsx] at hc) <;> (try first | omega | contradiction | (simp [qa] at hc; done))) | refine yp ?_ | refine yc ?_))
    exact RQ.fin rfl rfl rfl
end Go.Proofs.YtmhejcnaanocpaaGreat.A
