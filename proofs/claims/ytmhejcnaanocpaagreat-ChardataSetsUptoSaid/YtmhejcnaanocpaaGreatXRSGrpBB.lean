/- Contracts: canopyref01.Compare, Same; canopyref03.New, the law's text. -/
import Derived.Test.YtmhejcnaanocpaaGreatXRSGrpAX
import Derived.Test.YtmhejcnaanocpaaGreatXRSGrpBA
import Derived.Test.YtmhejcnaanocpaaGreatXRSGrpAI
import Derived.Test.YtmhejcnaanocpaaGreatXRSGrpAL
import Derived.Test.YtmhejcnaanocpaaGreatXRSGrpAP
namespace Go.Proofs.YtmhejcnaanocpaaGreat.A
set_option linter.unusedVariables false
set_option linter.unusedSimpArgs false
set_option maxRecDepth 100000
set_option maxHeartbeats 4000000
def cmpGo : List Int → List Int → Int
  | [], [] => 0
  | [], _ :: _ => -1
  | _ :: _, [] => 1
  | a :: u, b :: v => if a < b then -1 else if b < a then 1 else cmpGo u v
theorem qhi : ∀ u v : List Int, cmpGo u v = 0 ↔ u = v
  | [], [] => by simp [cmpGo]
  | [], _ :: _ => by simp [cmpGo]
  | _ :: _, [] => by simp [cmpGo]
  | a :: u, b :: v => by
    unfold cmpGo
    by_cases h1 : a < b
    · rw [if_pos h1]
      constructor
      · intro h; omega
      · intro h; injection h with h2 h3; omega
    · rw [if_neg h1]
      by_cases h2 : b < a
      · rw [if_pos h2]
        constructor
        · intro h; omega
        · intro h; injection h with h2 h3; omega
      · rw [if_neg h2, qhi u v]
        have : a = b := by omega
        subst this
        simp
theorem qe1 (u v : List Int) {i : Int} (h0 : 0 ≤ i) (h1 : i < u.length) (h2 : i < v.length) : cmpGo (u.drop i.toNat) (v.drop i.toNat) = if atI u i < atI v i then -1 else if atI v i < atI u i then 1 else cmpGo (u.drop (i + 1).toNat) (v.drop (i + 1).toNat) := by
  rw [qe h0 h1, qe h0 h2]
  rfl
theorem qoy (u v : List Int) {i : Int} (h0 : 0 ≤ i) (h1 : u.length ≤ i) (h2 : i < v.length) : cmpGo (u.drop i.toNat) (v.drop i.toNat) = -1 := by
  rw [List.drop_eq_nil_of_le (by omega), qe h0 h2]
  rfl
theorem qoz (u v : List Int) {i : Int} (h0 : 0 ≤ i) (h1 : i < u.length) (h2 : v.length ≤ i) : cmpGo (u.drop i.toNat) (v.drop i.toNat) = 1 := by
  rw [show v.drop i.toNat = [] from List.drop_eq_nil_of_le (by omega), qe h0 h1]
  rfl
theorem qo0 (u v : List Int) {i : Int} (h0 : 0 ≤ i) (h1 : u.length ≤ i) (h2 : v.length ≤ i) : cmpGo (u.drop i.toNat) (v.drop i.toNat) = 0 := by
  rw [show v.drop i.toNat = [] from List.drop_eq_nil_of_le (by omega), show u.drop i.toNat = [] from List.drop_eq_nil_of_le (by omega)]
  rfl
theorem qjy (u v : List Int) (hu : u.length ≤ 1000000000) (hv : v.length ≤ 1000000000) : PureC Tryz.prog 58 [.imm (.sl (u.map u16)), .imm (.sl (v.map u16))] (iav (cmpGo u v)) := by
  have hmu : (u.map u16).length = u.length := List.length_map _
  have hmv : (v.map u16).length = v.length := List.length_map _
  refine yp tabs Tryz.func58 48 [.tmp 4] rfl rfl rfl rfl rfl ?_; intro w0 X
  (repeat' (first | ((with_reducible show AL _ _ _ _ _); first | (refine yf tabs rfl ?_; try dsimp only [len, List.nil_append, List.cons_append]) | refine yn ?_ | (refine yq rfl rfl rfl (fun hc => ?_) (fun hc => ?_) <;> (fail_if_success (exact absurd hc (by decide))) <;> (try simp only [hsx] at hc) <;> (try first | omega | contradiction | (simp [qa] at hc; done))) | (refine AL.op rfl (yj rfl rfl rfl rfl rfl (by omega) (by omega)) ?_) | (refine AL.op rfl (ye tabs rfl rfl rfl rfl rfl rfl rfl (fun _ => rfl) (by decide) (by omega) (by omega)) ?_)) | ((with_reducible show DQ _ _ _ _ _ _); first | refine DQ.stepc (LS.val tabs rfl rfl rfl) rfl rfl rfl rfl rfl ?_ | refine DQ.stepc (yu rfl rfl) rfl rfl rfl rfl rfl ?_ | refine DQ.nilM (by kernel_rfl) ?_ | refine DQ.stepc (yad rfl rfl rfl rfl rfl rfl (by omega) (by omega)) rfl rfl rfl rfl rfl ?_ | refine DQ.stepc (yw tabs rfl rfl rfl rfl rfl rfl rfl rfl (fun _ => rfl) (by decide) (by omega) (by omega)) rfl rfl rfl rfl rfl ?_ | (refine DQ.gsplitE rfl rfl rfl (fun hc => ?_) (fun hc => ?_) <;> (fail_if_success (exact absurd hc (by decide))) <;> (try simp only [hsx] at hc) <;> (try first | omega | contradiction | (simp [qa] at hc; done)))) | fail | refine ym ?_ | refine ya ?_ | refine yb ?_ | refine yg ?_ | refine AW.block ?_ | refine yy ?_ | refine yi rfl ?_ | refine yh rfl ?_ | (refine yk rfl (fun hc => ?_) (fun hc => ?_) <;> (try simp only [hsx] at hc) <;> (try first | omega | contradiction | (simp [qa] at hc; done))) | refine yo ?_ | refine yaa ?_ | refine yc ?_ | refine yt ?_ | refine yab ?_ | refine yx ?_ | refine InB.off rfl ?_ | refine yaf ?_ | refine yac ?_ | refine yr mixed (by kernel_rfl) ?_))
  refine yao (α := Int) (fun i => ⟨[(0, .imm (.sl (u.map u16))), (1, .imm (.sl (v.map u16))), (5, iav i)], []⟩) (fun i => 0 ≤ i ∧ i ≤ u.length ∧ i ≤ v.length ∧ cmpGo (u.drop i.toNat) (v.drop i.toNat) = cmpGo u v) (fun i => (u.length - i).toNat) 0 (yag 0 rfl (by repeat' (first | exact trivial | refine ⟨rfl, ?_⟩)) rfl rfl (Nat.zero_le _)) ⟨by omega, by omega, by omega, rfl⟩ ?_
  intro i ⟨h0, h1, h2, h3⟩
  (repeat' (first | ((with_reducible show AL _ _ _ _ _); first | (refine yf tabs rfl ?_; try dsimp only [len, List.nil_append, List.cons_append]) | refine yn ?_ | (refine yq rfl rfl rfl (fun hc => ?_) (fun hc => ?_) <;> (fail_if_success (exact absurd hc (by decide))) <;> (try simp only [hsx] at hc) <;> (try first | omega | contradiction | (simp [qa] at hc; done))) | (refine AL.op rfl (yj rfl rfl rfl rfl rfl (by omega) (by omega)) ?_) | (refine AL.op rfl (ye tabs rfl rfl rfl rfl rfl rfl rfl (fun _ => rfl) (by decide) (by omega) (by omega)) ?_)) | ((with_reducible show DQ _ _ _ _ _ _); first | refine DQ.stepc (LS.val tabs rfl rfl rfl) rfl rfl rfl rfl rfl ?_ | refine DQ.stepc (yu rfl rfl) rfl rfl rfl rfl rfl ?_ | refine DQ.nilM (by kernel_rfl) ?_ | refine DQ.stepc (yad rfl rfl rfl rfl rfl rfl (by omega) (by omega)) rfl rfl rfl rfl rfl ?_ | refine DQ.stepc (yw tabs rfl rfl rfl rfl rfl rfl rfl rfl (fun _ => rfl) (by decide) (by omega) (by omega)) rfl rfl rfl rfl rfl ?_ | (refine DQ.gsplitE rfl rfl rfl (fun hc => ?_) (fun hc => ?_) <;> (fail_if_success (exact absurd hc (by decide))) <;> (try simp only [hsx] at hc) <;> (try first | omega | contradiction | (simp [qa] at hc; done)))) | refine ym ?_ | refine ya ?_ | refine yb ?_ | refine yg ?_ | refine AW.block ?_ | refine yy ?_ | refine yi rfl ?_ | refine yh rfl ?_ | (refine yk rfl (fun hc => ?_) (fun hc => ?_) <;> (try simp only [hsx] at hc) <;> (try first | omega | contradiction | (simp [qa] at hc; done))) | refine yo ?_ | refine yaa ?_ | refine yc ?_ | refine yt ?_ | refine yab ?_ | refine yx ?_ | refine InB.off rfl ?_ | refine yaf ?_ | refine yac ?_ | refine yr mixed (by kernel_rfl) ?_))
  · rw [qe1 u v h0 (by assumption) (by assumption), if_pos hc] at h3
    rw [← h3]
    exact RQ.fin rfl rfl rfl
  · rw [qe1 u v h0 (by assumption) (by assumption), if_neg (by omega), if_pos hc] at h3
    rw [← h3]
    exact RQ.fin rfl rfl rfl
  · rw [qe1 u v h0 (by assumption) (by assumption), if_neg (by omega), if_neg (by omega)] at h3
    exact yak (i + 1) (yag 0 rfl (by repeat' (first | exact trivial | refine ⟨rfl, ?_⟩)) rfl rfl (Nat.zero_le _)) ⟨by omega, by omega, by omega, h3⟩ (by omega)
  · rw [qoz u v h0 (by assumption) (by assumption)] at h3
    rw [← h3]
    exact RQ.fin rfl rfl rfl
  · rw [qoy u v h0 (by assumption) (by omega)] at h3
    rw [← h3]
    exact RQ.fin rfl rfl rfl
  · rw [qo0 u v h0 (by omega) (by omega)] at h3
    rw [← h3]
    exact RQ.fin rfl rfl rfl
theorem qmi (u v : List Int) (hu : u.length ≤ 1000000000) (hv : v.length ≤ 1000000000) : PureC Tryz.prog 17 [.imm (.sl (u.map u16)), .imm (.sl (v.map u16))] (bav (dec (u = v))) := by
  have c1 := qjy u v hu hv
  rw [show dec (u = v) = dec (cmpGo u v = 0) by rw [Bool.eq_iff_iff, qc, qc]; exact (qhi u v).symm]
  refine yp tabs Tryz.func17 9 [.tmp 4] rfl rfl rfl rfl rfl ?_; intro w0 X
  (repeat' (first | ((with_reducible show AL _ _ _ _ _); first | (refine yf tabs rfl ?_; try dsimp only [len, List.nil_append, List.cons_append]) | refine AL.op rfl (yd rfl rfl rfl rfl c1 rfl) ?_ | refine yn ?_) | refine ym ?_ | refine ya ?_ | refine yb ?_ | refine yg ?_ | refine yo ?_ | refine yc ?_))
  exact RQ.fin rfl rfl rfl
def docN : Node := { n0 with kind := 9, doc := 1, html := true }
def rawD : List AV := [kav 9, sav es, sav es, sav es, sav es, sav es, .nils, .nils, iav 0, .nils, iav 1, iav 0, iav 0, kav 0, bav false, bav true]
def rawP (k : AV) : List AV := [kav 1, sav es, sav es, sav ⟨#[112]⟩, sav es, sav es, .nils, .nils, iav 0, k, iav 1, iav 0, iav 0, kav 0, bav false, bav false]
def rawX (s : List Int) : List AV := [kav 3, sav es, sav es, sav es, sav es, sav es, .imm (.sl (s.map u16)), .nils, iav 2, .nils, iav 1, iav 0, iav 0, kav 0, bav false, bav false]
theorem qo1 : GenC Tryz.prog 91 [] [bav true] (.agg [.os 1 1]) [⟨24, 1, [[.os 1 1]]⟩, ⟨44, 16, [rawD]⟩] := by
  refine yah tabs Tryz.func91 7 [.cell 2 24] rfl rfl rfl rfl rfl ?_; intro w0 X γ κ
  (repeat' (first | ((with_reducible show AL _ _ _ _ _); first | (refine yf tabs rfl ?_; try dsimp only [len, List.nil_append, List.cons_append]) | refine yn ?_) | refine ym ?_ | refine ya ?_ | refine yb ?_ | refine yg ?_ | refine yo ?_ | refine yc ?_))
  exact yal 2 rfl rfl rfl rfl rfl (by simp [cxG])
def pN : Node := { n0 with kind := 1, name := ⟨es, es, ⟨#[112]⟩⟩, doc := 1, kids := [3] }
def tN (s : List Int) : Node := { n0 with kind := 3, doc := 1, parent := 2, data := s }
def textF (s : List Int) : List Node := [docN, pN, tN s]
theorem qjz (s : List Int) : PureC Tryz.prog 56 [.imm (.sl (s.map u16))] (fav (textF s)) := by
  have hr : ∀ r ∈ [rawP (.os 4 1), rawX s], r.length = 16 := by
    intro r hr
    rcases List.mem_cons.1 hr with e | hr
    · rw [e]; rfl
    · rw [List.mem_singleton.1 hr]; rfl
  have hc : ∀ c ∈ [rawP (.os 4 1), rawX s].flatten, c.cell = true := by
    have : [rawP (.os 4 1), rawX s].flatten.all AV.cell = true := rfl
    rw [List.all_eq_true] at this
    exact this
  refine yp tabs Tryz.func56 16 [.cell 2 24] rfl rfl rfl rfl rfl ?_; intro w0 X
  (repeat' (first | ((with_reducible show AL _ _ _ _ _); first | (refine yf tabs rfl ?_; try dsimp only [len, List.nil_append, List.cons_append]) | refine yz [] 1 rfl rfl rfl rfl rfl (caps := []) rfl qo1 rfl rfl rfl rfl rfl rfl rfl rfl (hpA := [⟨24, 1, [[.os 2 1]]⟩, ⟨44, 16, [rawD]⟩]) rfl (r' := .agg [.os 2 1]) rfl rfl ?_; try dsimp only [setAll, List.drop_succ_cons, List.drop_zero, List.drop_nil, List.set_cons_succ, List.set_cons_zero, List.cons_append, List.nil_append, List.append_nil, len, Nat.reduceAdd] | refine yae rfl (yam (ie := ti44) (b := ⟨44, 16, [rawD]⟩) (rows2 := [rawP (.os 4 1), rawX s]) tabs rfl rfl rfl rfl rfl rfl rfl rfl rfl rfl (SrcA.own tabs rfl rfl rfl (b := ⟨44, 16, [rawP (.os 4 1), rawX s]⟩) rfl rfl rfl hr hc) (by simp [ti44]) (by simp)) rfl ?_ | refine yn ?_) | refine ym ?_ | refine ya ?_ | refine yb ?_ | refine yg ?_ | refine yo ?_ | refine yc ?_))
  refine yap rfl (ybs (.cons (Fz.osN (b := ⟨44, 16, [rawD, rawP (.os 4 1), rawX s]⟩) (rows := (textF s).map Node.iv) (hb := rfl) (hver := ?_) (hlen := ?_) (hrl := ?_) (hr := ?_)) .nil))
  · rfl
  · rfl
  · intro r hr
    obtain ⟨n, _, rfl⟩ := List.mem_map.1 hr
    rfl
  repeat' (first | exact All2.nil | refine All2.cons ?_ ?_)
  all_goals first
    | exact FzI.imm _
    | exact FzI.of (Fz.cv rfl)
    | (refine FzI.of (Fz.os (hb := rfl) (hver := ?_) (hr := ?_)) <;> rfl)
theorem qy (p : Prop) [Decidable p] : dec p = decide p := qa p
theorem qe2 {f : List Node} (h : f.length ≤ 4096) (h2 : ∀ j : Nat, j < f.length → okP f (j : Int) (atI f j)) : rightP f := ⟨h, fun i h0 h1 => by
  have := h2 i.toNat (by omega)
  rw [show ((i.toNat : Nat) : Int) = i by omega] at this
  exact this⟩
theorem sz0 : (⟨#[]⟩ : ByteArray).size = 0 := rfl
theorem szp : (⟨#[112]⟩ : ByteArray).size = 1 := rfl
def p2 (ks : List Int) : Node := { pN with kids := ks }
def xN (r : List Int) (p : Int) : Node := { n0 with kind := 3, doc := 1, parent := p, data := r }
def text4 (s r : List Int) (ks : List Int) (p : Int) : List Node := [docN, p2 ks, tN s, xN r p]
theorem qb8 (s : List Int) (hs : s.length ≤ 16384) : rightP (textF s) := by
  have hr := hs
  refine qe2 (by simp [textF]) fun j hj => ?_
  have hj' : j < 3 := hj
  match j, hj' with
  | 0, _ =>
    refine ⟨?_, ?_, 1, ?_⟩
    · simp [madeP, m11, m27, m50, m77, m100, m200, textF, docN, pN, p2, tN, xN, atI, n0, traitsOf, namingB, namedB, shortB, attrsB, attrsGo, es, sz0, szp, qy] <;> omega
    · simp [linksP, l1, l2, l3, l4, kidsB, kidsGo, famB, famGo, nodeAt, inB, cntB, textF, docN, pN, p2, tN, xN, atI, n0, qy]
    · simp [inR, itN, upN, aboveOf, textF, docN, pN, p2, tN, xN, atI, n0]
  | 1, _ =>
    refine ⟨?_, ?_, 1, ?_⟩
    · simp [madeP, m11, m27, m50, m77, m100, m200, textF, docN, pN, p2, tN, xN, atI, n0, traitsOf, namingB, namedB, shortB, attrsB, attrsGo, es, sz0, szp, qy] <;> omega
    · simp [linksP, l1, l2, l3, l4, kidsB, kidsGo, famB, famGo, nodeAt, inB, cntB, textF, docN, pN, p2, tN, xN, atI, n0, qy]
    · simp [inR, itN, upN, aboveOf, textF, docN, pN, p2, tN, xN, atI, n0]
  | 2, _ =>
    refine ⟨?_, ?_, 2, ?_⟩
    · simp [madeP, m11, m27, m50, m77, m100, m200, textF, docN, pN, p2, tN, xN, atI, n0, traitsOf, namingB, namedB, shortB, attrsB, attrsGo, es, sz0, szp, qy] <;> omega
    · simp [linksP, l1, l2, l3, l4, kidsB, kidsGo, famB, famGo, nodeAt, inB, cntB, textF, docN, pN, p2, tN, xN, atI, n0, qy]
    · simp [inR, itN, upN, aboveOf, textF, docN, pN, p2, tN, xN, atI, n0]
theorem qd0 (s r : List Int) (hs : s.length ≤ 16384) (hr : r.length ≤ 16384) : rightP (text4 s r [3, 4] 2) := by
  refine qe2 (by simp [text4]) fun j hj => ?_
  have hj' : j < 4 := hj
  match j, hj' with
  | 0, _ =>
    refine ⟨?_, ?_, 1, ?_⟩
    · simp [madeP, m11, m27, m50, m77, m100, m200, text4, docN, pN, p2, tN, xN, atI, n0, traitsOf, namingB, namedB, shortB, attrsB, attrsGo, es, sz0, szp, qy] <;> omega
    · simp [linksP, l1, l2, l3, l4, kidsB, kidsGo, famB, famGo, nodeAt, inB, cntB, text4, docN, pN, p2, tN, xN, atI, n0, qy]
    · simp [inR, itN, upN, aboveOf, text4, docN, pN, p2, tN, xN, atI, n0]
  | 1, _ =>
    refine ⟨?_, ?_, 1, ?_⟩
    · simp [madeP, m11, m27, m50, m77, m100, m200, text4, docN, pN, p2, tN, xN, atI, n0, traitsOf, namingB, namedB, shortB, attrsB, attrsGo, es, sz0, szp, qy] <;> omega
    · simp [linksP, l1, l2, l3, l4, kidsB, kidsGo, famB, famGo, nodeAt, inB, cntB, text4, docN, pN, p2, tN, xN, atI, n0, qy]
    · simp [inR, itN, upN, aboveOf, text4, docN, pN, p2, tN, xN, atI, n0]
  | 2, _ =>
    refine ⟨?_, ?_, 2, ?_⟩
    · simp [madeP, m11, m27, m50, m77, m100, m200, text4, docN, pN, p2, tN, xN, atI, n0, traitsOf, namingB, namedB, shortB, attrsB, attrsGo, es, sz0, szp, qy] <;> omega
    · simp [linksP, l1, l2, l3, l4, kidsB, kidsGo, famB, famGo, nodeAt, inB, cntB, text4, docN, pN, p2, tN, xN, atI, n0, qy]
    · simp [inR, itN, upN, aboveOf, text4, docN, pN, p2, tN, xN, atI, n0]
  | 3, _ =>
    refine ⟨?_, ?_, 2, ?_⟩
    · simp [madeP, m11, m27, m50, m77, m100, m200, text4, docN, pN, p2, tN, xN, atI, n0, traitsOf, namingB, namedB, shortB, attrsB, attrsGo, es, sz0, szp, qy] <;> omega
    · simp [linksP, l1, l2, l3, l4, kidsB, kidsGo, famB, famGo, nodeAt, inB, cntB, text4, docN, pN, p2, tN, xN, atI, n0, qy]
    · simp [inR, itN, upN, aboveOf, text4, docN, pN, p2, tN, xN, atI, n0]
theorem qfv (s r : List Int) (hs : s.length ≤ 16384) (hr : r.length ≤ 16384) : rightP (text4 s r [3] 0) := by
  refine qe2 (by simp [text4]) fun j hj => ?_
  have hj' : j < 4 := hj
  match j, hj' with
  | 0, _ =>
    refine ⟨?_, ?_, 1, ?_⟩
    · simp [madeP, m11, m27, m50, m77, m100, m200, text4, docN, pN, p2, tN, xN, atI, n0, traitsOf, namingB, namedB, shortB, attrsB, attrsGo, es, sz0, szp, qy] <;> omega
    · simp [linksP, l1, l2, l3, l4, kidsB, kidsGo, famB, famGo, nodeAt, inB, cntB, text4, docN, pN, p2, tN, xN, atI, n0, qy]
    · simp [inR, itN, upN, aboveOf, text4, docN, pN, p2, tN, xN, atI, n0]
  | 1, _ =>
    refine ⟨?_, ?_, 1, ?_⟩
    · simp [madeP, m11, m27, m50, m77, m100, m200, text4, docN, pN, p2, tN, xN, atI, n0, traitsOf, namingB, namedB, shortB, attrsB, attrsGo, es, sz0, szp, qy] <;> omega
    · simp [linksP, l1, l2, l3, l4, kidsB, kidsGo, famB, famGo, nodeAt, inB, cntB, text4, docN, pN, p2, tN, xN, atI, n0, qy]
    · simp [inR, itN, upN, aboveOf, text4, docN, pN, p2, tN, xN, atI, n0]
  | 2, _ =>
    refine ⟨?_, ?_, 2, ?_⟩
    · simp [madeP, m11, m27, m50, m77, m100, m200, text4, docN, pN, p2, tN, xN, atI, n0, traitsOf, namingB, namedB, shortB, attrsB, attrsGo, es, sz0, szp, qy] <;> omega
    · simp [linksP, l1, l2, l3, l4, kidsB, kidsGo, famB, famGo, nodeAt, inB, cntB, text4, docN, pN, p2, tN, xN, atI, n0, qy]
    · simp [inR, itN, upN, aboveOf, text4, docN, pN, p2, tN, xN, atI, n0]
  | 3, _ =>
    refine ⟨?_, ?_, 1, ?_⟩
    · simp [madeP, m11, m27, m50, m77, m100, m200, text4, docN, pN, p2, tN, xN, atI, n0, traitsOf, namingB, namedB, shortB, attrsB, attrsGo, es, sz0, szp, qy] <;> omega
    · simp [linksP, l1, l2, l3, l4, kidsB, kidsGo, famB, famGo, nodeAt, inB, cntB, text4, docN, pN, p2, tN, xN, atI, n0, qy]
    · simp [inR, itN, upN, aboveOf, text4, docN, pN, p2, tN, xN, atI, n0]
theorem qol {f : List Node} (h : f.length ≤ 1000000000) (h2 : ∀ n ∈ f, n.data.length ≤ 100000 ∧ n.attrs.length ≤ 10 ∧ n.kids.length ≤ 10) : Fit f := ⟨h, fun n hn => by
  obtain ⟨a, b, c⟩ := h2 n hn
  exact ⟨by omega, by omega, by omega⟩⟩
theorem qe3 (s : List Int) (hs : s.length ≤ 16384) : Fit (textF s) := qol (by simp [textF]) (by simp [textF, docN, pN, tN, n0]; omega)
theorem cf0 {f : List Node} {h : Int} {b : Bool} (hr : rightP f) (hh : inR f h) (hd : dataB (nodeAt f h).kind) (ht : b = true → textB (nodeAt f h).kind) : cfP f h b = 0 := by
  have hfa : faultR f [h] = 0 := by
    unfold faultR
    rw [if_pos (by rw [qc]; exact hr), if_pos (by simpa using qla.2 hh)]
  unfold cfP
  rw [hfa, if_neg (by omega), if_neg]
  rintro (h1 | ⟨h1, h2⟩)
  · rw [qi] at h1; exact h1 hd
  · rw [qi] at h2; exact h2 (ht h1)
def abc : List Int := [97, 98, 99]
theorem qgm (s : List Int) (hs : s.length ≤ 16384) (b : Bool) : cfP (textF s) 3 b = 0 := cf0 (qb8 s hs) (by simp [inR, textF]) (.inl (.inl rfl)) (fun _ => .inl rfl)
theorem qj0 : ∃ L : List Change, L.length = 1 ∧ PureC Tryz.prog 19 [fav (textF abc), iav 3, u32 1, u32 9, .imm (.sl (([120] : List Int).map u16))] (.tup [fav (textF [97, 120]), .imm (.sl (L.map Change.iv)), iav 0]) := by
  have hf := qe3 abc (by decide)
  have hr := qb8 abc (by decide)
  have hin : inR (textF abc) 3 := by simp [inR, textF]
  have hi := inv0 hf hr hin
  have hcf := qgm abc (by decide) false
  have ep : replP (nodeAt (textF abc) 3).data 1 9 [120] = ([97, 120], 0) := by decide
  have ec : putC (textF abc) 3 1 9 [120] = daCh 3 1 2 [120] := by
    rw [qck, ep]
    rfl
  have hcan : CanCh (textF abc) (daCh 3 1 2 [120]) := .dat _ _ _ _ hin (by decide) (by omega) (by omega) (by decide) (by decide) (by decide)
  have hd : doneG (textF abc) (daCh 3 1 2 [120]) = (textF [97, 120], 0) := by
    rw [show doneG (textF abc) (daCh 3 1 2 [120]) = doneW (textF abc) 3 [97, 120] from rfl]
    unfold doneW
    rw [show datF (textF abc) 3 [97, 120] = textF [97, 120] from rfl, if_pos (by rw [qc]; exact qb8 _ (by decide))]
  obtain ⟨b, hb⟩ := qdz (p := pen0 (textF abc)) (h := 3) (off := 1) (cnt := 9) (v := [120]) hi (fun _ _ => by rw [show (pen0 (textF abc)).F = textF abc from rfl, ec]; exact hcan)
  have eq : putS (pen0 (textF abc)) 3 1 9 [120] = ⟨textF [97, 120], [daCh 3 1 2 [120]], 0⟩ := by
    unfold putS doS
    rw [show (pen0 (textF abc)).F = textF abc from rfl, ep, ec, hd, if_neg (by simp), if_neg (by simp [pen0]), if_neg (by simp)]
    rfl
  have := qdv (textF abc) _ b 3 [120] 1 9 hf (by omega) (by omega) (by omega) (by omega) (by simp) (fun _ => hb)
  rw [eq, hcf] at this
  unfold ansP at this
  rw [if_neg (by omega), if_neg (by simp)] at this
  exact ⟨_, rfl, this⟩
theorem qj1 : ∃ (g : List Node) (L : List Change), g.length = 4 ∧ (nodeAt g 4).data = [98, 99] ∧ L.length = 5 ∧ PureC Tryz.prog 12 [fav (textF abc), iav 3, u32 1] (.tup [fav g, iav 4, .imm (.sl (L.map Change.iv)), iav 0]) := by
  have hf := qe3 abc (by decide)
  have hr := qb8 abc (by decide)
  have hin : inR (textF abc) 3 := by simp [inR, textF]
  have hcf := qgm abc (by decide) true
  have ht : textB (nodeAt (textF abc) 3).kind := .inl rfl
  have ho : (1 : Int) ≤ (nodeAt (textF abc) 3).data.length := by decide
  have e1 : spl1 (textF abc) 3 1 = (⟨text4 abc [98, 99] [3] 0, [mkCh 4 (restN (textF abc) 3 1)], 0⟩, true) := by
    unfold spl1 doS
    rw [if_neg (by simp [pen0])]
    have hd : doneG (pen0 (textF abc)).F (mkCh ((textF abc).length + 1) (restN (textF abc) 3 1)) = (text4 abc [98, 99] [3] 0, 0) := by
      rw [show doneG (pen0 (textF abc)).F (mkCh ((textF abc).length + 1) (restN (textF abc) 3 1)) = doneM (textF abc) (restN (textF abc) 3 1) from rfl]
      unfold doneM
      rw [if_neg (by simp [textF]), show textF abc ++ [restN (textF abc) 3 1] = text4 abc [98, 99] [3] 0 from rfl, if_pos (by rw [qc]; exact qfv _ _ (by decide) (by decide))]
    rw [hd, if_neg (by simp)]
    rfl
  have e2 : spl2 (textF abc) 3 1 = ⟨text4 abc [98, 99] [3, 4] 2, [mkCh 4 (restN (textF abc) 3 1), inCh 4 2 1], 0⟩ := by
    unfold spl2 doS
    rw [e1, if_neg (by simp)]
    have hd : doneG (text4 abc [98, 99] [3] 0) (inCh ((textF abc).length + 1) (nodeAt (textF abc) 3).parent (placeP (textF abc) 3 + 1)) = (text4 abc [98, 99] [3, 4] 2, 0) := by
      rw [show doneG (text4 abc [98, 99] [3] 0) (inCh ((textF abc).length + 1) (nodeAt (textF abc) 3).parent (placeP (textF abc) 3 + 1)) = doneA (text4 abc [98, 99] [3] 0) (inCh 4 2 1) from rfl]
      unfold doneA
      rw [show insFM (text4 abc [98, 99] [3] 0) (inCh 4 2 1).node (inCh 4 2 1).parent (inCh 4 2 1).index = text4 abc [98, 99] [3, 4] 2 from rfl, if_pos (by rw [qc]; exact qd0 _ _ (by decide) (by decide))]
    simp only
    rw [hd, if_neg (by simp)]
    rfl
  have e3 : spl3 (textF abc) 3 1 = ⟨text4 abc [98, 99] [3, 4] 2, [mkCh 4 (restN (textF abc) 3 1), inCh 4 2 1, treeCh 2 4 3 0], 0⟩ := by
    unfold spl3 doS
    rw [e2, if_neg (by simp)]
    have hd : doneG (text4 abc [98, 99] [3, 4] 2) (treeCh (nodeAt (textF abc) 3).parent ((textF abc).length + 1) 3 (besideP (textF abc) 3 1)) = (text4 abc [98, 99] [3, 4] 2, 0) := by
      rw [show besideP (textF abc) 3 1 = 0 by unfold besideP; rw [if_neg (by decide), if_pos (.inr (by decide))]]
      rw [show doneG (text4 abc [98, 99] [3, 4] 2) (treeCh (nodeAt (textF abc) 3).parent ((textF abc).length + 1) 3 0) = if dec (treeP (text4 abc [98, 99] [3, 4] 2) (treeCh 2 4 3 0)) = true then (text4 abc [98, 99] [3, 4] 2, 0) else ([], 2) from rfl]
      rw [if_pos]
      rw [qc]
      exact ⟨rfl, rfl, rfl, .inr rfl, .inl rfl⟩
    simp only
    rw [hd, if_neg (by simp)]
    rw [show besideP (textF abc) 3 1 = 0 by unfold besideP; rw [if_neg (by decide), if_pos (.inr (by decide))]]
    rfl
  have e4 : spl4 (textF abc) 3 1 = ⟨text4 abc [98, 99] [3, 4] 2, [mkCh 4 (restN (textF abc) 3 1), inCh 4 2 1, treeCh 2 4 3 0, splitCh 3 4 1], 0⟩ := by
    unfold spl4
    rw [if_pos ⟨by rw [e1], by decide⟩]
    unfold doS
    rw [e3, if_neg (by simp)]
    have hd : doneG (text4 abc [98, 99] [3, 4] 2) (splitCh 3 ((textF abc).length + 1) 1) = (text4 abc [98, 99] [3, 4] 2, 0) := rfl
    simp only
    rw [hd, if_neg (by simp)]
    rfl
  have eq : splQ (textF abc) 3 1 = ⟨text4 [97] [98, 99] [3, 4] 2, [mkCh 4 (restN (textF abc) 3 1), inCh 4 2 1, treeCh 2 4 3 0, splitCh 3 4 1, daCh 3 1 2 []], 0⟩ := by
    unfold splQ putS
    rw [e4]
    have ep : replP (nodeAt (text4 abc [98, 99] [3, 4] 2) 3).data 1 (restL (textF abc) 3 1).length [] = ([97], 0) := by decide
    simp only
    rw [ep, if_neg (by simp)]
    have ec : putC (text4 abc [98, 99] [3, 4] 2) 3 1 (restL (textF abc) 3 1).length [] = daCh 3 1 2 [] := by
      rw [qck, ep]
      rfl
    rw [ec]
    unfold doS
    rw [if_neg (by simp)]
    have hd : doneG (text4 abc [98, 99] [3, 4] 2) (daCh 3 1 2 []) = (text4 [97] [98, 99] [3, 4] 2, 0) := by
      rw [show doneG (text4 abc [98, 99] [3, 4] 2) (daCh 3 1 2 []) = doneW (text4 abc [98, 99] [3, 4] 2) 3 [97] from rfl]
      unfold doneW
      rw [show datF (text4 abc [98, 99] [3, 4] 2) 3 [97] = text4 [97] [98, 99] [3, 4] 2 from rfl, if_pos (by rw [qc]; exact qd0 _ _ (by decide) (by decide))]
    simp only
    rw [hd, if_neg (by simp)]
    rfl
  have := qls (textF abc) 3 1 hf (by omega) (by omega)
  unfold splitA at this
  rw [hcf, if_neg (by omega), if_neg (by omega), eq, if_neg (by simp)] at this
  exact ⟨_, _, rfl, rfl, rfl, this⟩
theorem qj2 : PureC Tryz.prog 18 [fav (textF [97]), iav 3] (.tup [.imm (.sl (([97] : List Int).map u16)), iav 0]) := by
  have := qlk (textF [97]) 3 (qe3 _ (by decide)) (qgm _ (by decide) true) (by decide)
  rw [show wholeP (textF [97]) 3 = [97] by
    unfold wholeP
    rw [if_neg (by decide)]
    have e : idx (nodeAt (textF [97]) (nodeAt (textF [97]) 3).parent).kids 3 = 0 := by decide
    rw [e]
    have t3 : txt (textF [97]) 3 = true := by unfold txt; rw [qc]; exact .inl rfl
    rw [show (nodeAt (textF [97]) (nodeAt (textF [97]) 3).parent).kids = [3] from rfl]
    simp [leftN, runGo, t3]
    rfl] at this
  exact this
theorem qj3 : PureC Tryz.prog 14 [] (bav true) := by
  obtain ⟨L1, hL1, r1⟩ := qj0
  obtain ⟨g, L2, hg, hd, hL2, r2⟩ := qj1
  have r3 := qj2
  have t1 := qjz abc
  have t2 := qjz [97]
  have hgm : (g.map Node.iv).length = 4 := by rw [List.length_map, hg]
  have hm1 : (L1.map Change.iv).length = 1 := by rw [List.length_map, hL1]
  have hm2 : (L2.map Change.iv).length = 5 := by rw [List.length_map, hL2]
  have hg3 : (atI g 3).data = [98, 99] := by
    rw [← hd, qx ⟨by omega, by omega⟩]
    rfl
  have s1 := qmi [97, 120] [97, 120] (by simp) (by simp)
  have s2 := qmi (atI g 3).data [98, 99] (by rw [hg3]; simp) (by simp)
  rw [show dec (([97, 120] : List Int) = [97, 120]) = true by rw [qc]] at s1
  rw [show dec ((atI g 3).data = [98, 99]) = true by rw [qc]; exact hg3] at s2
  have ht3 : (textF [97, 120]).length = 3 := rfl
  have hx2 : (atI (textF [97, 120]) 2).data = [97, 120] := rfl
  have hm3 : ((textF [97, 120]).map Node.iv).length = 3 := rfl
  refine yp tabs Tryz.func14 89 [.tmp 0] rfl rfl rfl rfl rfl ?_; intro w0 X
  (repeat' (first | ((with_reducible show AL _ _ _ _ _); first | refine yb1 0 (h1 := []) (env1 := [(11, .imm (.sl (abc.map u16)))]) (abc.map u16) rfl rfl ⟨⟨_, rfl, rfl⟩, trivial⟩ rfl rfl rfl (Nat.zero_le _) ?_ | refine yb1 0 (h1 := []) (env1 := [(12, fav (textF abc)), (13, .imm (.sl (([120] : List Int).map u16)))]) (([120] : List Int).map u16) rfl rfl ⟨⟨_, rfl, rfl⟩, ⟨_, rfl, rfl⟩, trivial⟩ rfl rfl rfl (Nat.zero_le _) ?_ | refine yb1 1 (h1 := [⟨24, 1, [[.imm (.sl ((textF [97, 120]).map Node.iv))]]⟩]) (env1 := [(1, .ptr 0 1 0 0), (2, .imm (.sl ((L1).map Change.iv))), (3, iav 0), (19, .imm (.sl (abc.map u16)))]) (abc.map u16) rfl rfl ⟨⟨_, rfl, rfl⟩, ⟨_, rfl, rfl⟩, ⟨_, rfl, rfl⟩, ⟨_, rfl, rfl⟩, trivial⟩ rfl rfl rfl (Nat.zero_le _) ?_ | refine yb1 2 (h1 := [⟨24, 1, [[.imm (.sl ((textF [97, 120]).map Node.iv))]]⟩, ⟨24, 1, [[.imm (.sl ((g).map Node.iv))]]⟩]) (env1 := [(1, .ptr 0 1 0 0), (2, .imm (.sl ((L1).map Change.iv))), (3, iav 0), (4, .ptr 1 1 0 0), (5, iav 4), (6, .imm (.sl ((L2).map Change.iv))), (7, iav 0), (27, .imm (.sl (([97] : List Int).map u16)))]) (([97] : List Int).map u16) rfl rfl ⟨⟨_, rfl, rfl⟩, ⟨_, rfl, rfl⟩, ⟨_, rfl, rfl⟩, ⟨_, rfl, rfl⟩, ⟨_, rfl, rfl⟩, ⟨_, rfl, rfl⟩, ⟨_, rfl, rfl⟩, ⟨_, rfl, rfl⟩, trivial⟩ rfl rfl rfl (Nat.zero_le _) ?_ | (refine yf tabs rfl ?_; try dsimp only [len, List.nil_append, List.cons_append]) | refine AL.op rfl (yd rfl rfl rfl rfl t1 rfl) ?_ | refine AL.op rfl (yd rfl rfl rfl rfl t2 rfl) ?_ | refine AL.op rfl (ya7 rfl rfl rfl rfl s1 rfl rfl) ?_ | refine AL.op rfl (ya7 rfl rfl rfl rfl s2 rfl rfl) ?_ | refine AL.op rfl (yd rfl rfl rfl rfl r1 rfl) ?_ | refine AL.op rfl (yd rfl rfl rfl rfl r2 rfl) ?_ | refine AL.op rfl (yd rfl rfl rfl rfl r3 rfl) ?_ | refine yn ?_ | (refine yq rfl rfl rfl (fun hc => ?_) (fun hc => ?_) <;> (fail_if_success (exact absurd hc (by decide))) <;> (try simp only [hsx] at hc) <;> (try first | omega | contradiction | (simp [qa] at hc; done))) | (refine AL.op rfl (ye tabs rfl rfl rfl rfl rfl rfl rfl (fun _ => rfl) (by decide) (by omega) (by omega)) ?_)) | refine ym ?_ | refine ya ?_ | refine yb ?_ | refine yg ?_ | refine yi rfl ?_ | refine yh rfl ?_ | (refine yk rfl (fun hc => ?_) (fun hc => ?_) <;> (try simp only [hsx] at hc) <;> (try first | omega | contradiction | (simp [qa] at hc; done))) | refine yo ?_ | refine yc ?_))
  refine RQ.fin rfl rfl (congrArg bav ?_); simp [qa]
open Go.RowKit
section
variable {C : Cx} {s : St} {o : Oper} {T : List (Nat × TI)} {l : List Oper}
theorem LS.lit0 (hT : TsOK C.P T) (hw : awant l s o = some true) (hd : dok C.nt o.dst = true) {t e : TypeId} {ps : Array (Nat × Operand)} (ho : o.op = .buildSlice t 0 ps) (hp : ps.toList = []) {i ie : TI} (hi : look T t = some i) (hk : i.kd = .sl e) (hie : look T e = some ie) : LS C l s o (mkFx l s o (.val .nocap) []) :=
  yav [] hw fun s' hl => ybp hT hd ho hp hi hk hie
theorem yck (hT : TsOK C.P T) (hw : awant l s o = some true) (hd : dok C.nt o.dst = true) {x y : Operand} {t tx e e2 : TypeId} (ho : o.op = .call ⟨.builtin .append, #[x, y], #[t, tx]⟩) {i i2 ie : TI} (hi : look T t = some i) (hk : i.kd = .sl e) (hie : look T e = some ie) (hx : s.ev x = some .nocap) (hi2 : look T tx = some i2) (hk2 : i2.kd = .sl e2) {rows : List (List IV)} (hy : s.ev y = some (.imm (.sl rows))) (h0 : rows = []) : LS C l s o (mkFx l s o (.val .nocap) []) :=
  yav [] hw fun s' hl => by
    have hxm : x ∈ o.op.operands.toList := by rw [ho]; simp [Op.operands, Call.operands]
    have hym : y ∈ o.op.operands.toList := by rw [ho]; simp [Op.operands, Call.operands]
    subst h0
    exact ybc hT hd ho hi hk hie ((hl.ev x hxm).trans hx) (SrcA.imm (rows := []) hT hi2 hk2 ((hl.ev y hym).trans hy) (fun r hr => by cases hr))
theorem LS.nocap_imm (p : Nat) (hT : TsOK C.P T) (hw : awant l s o = some true) (hd : dok C.nt o.dst = true) {x y : Operand} {t tx e e2 : TypeId} (ho : o.op = .call ⟨.builtin .append, #[x, y], #[t, tx]⟩) {i i2 ie : TI} (hi : look T t = some i) (hk : i.kd = .sl e) (hie : look T e = some ie) (hpos : 0 < ie.sz) (hx : s.ev x = some .nocap)
    {sz : Nat} (hp : nth s.hp p = some ⟨e, sz, []⟩) (hsz : sz = ie.sz) (hi2 : look T tx = some i2) (hk2 : i2.kd = .sl e2) {rows : List (List IV)} (hy : s.ev y = some (.imm (.sl rows))) (hne : rows ≠ []) (hrl : ∀ r ∈ rows, r.length = ie.sz) (hbound : rows.length * ie.bytes ≤ 140737488355328) (h63 : rows.length ≤ 9223372036854775807) :
    LS C l s o (mkFx l s o (.blk p ⟨e, sz, rows.map (·.map .imm)⟩ (.os p rows.length)) [p]) :=
  LS.blk [p] hw fun s' hl => by
    have hxm : x ∈ o.op.operands.toList := by rw [ho]; simp [Op.operands, Call.operands]
    have hym : y ∈ o.op.operands.toList := by rw [ho]; simp [Op.operands, Call.operands]
    have := yas p hT hd ho hi hk hie hpos ((hl.ev x hxm).trans hx) ((hl.xb p (by simp)).trans hp) hsz (by simpa using hne) (SrcA.imm (rows := rows) hT hi2 hk2 ((hl.ev y hym).trans hy) hrl) (by simpa using hbound) (by simpa using h63)
    rw [List.length_map] at this
    exact this
end
section
variable {f g : List Node} {h off : Int} (hr : rightP f) (hh : inR f h) (ht : textB (nodeAt f h).kind) (h0 : 0 ≤ off) (ho : off ≤ (nodeAt f h).data.length) (hdl : (nodeAt f h).data.length ≤ 1000000000) (S : SplitO f h off g)
include hr hh ht h0 ho hdl S
end
def Chain : List Node → List Change → List Node → Prop
  | f, [], g => f = g
  | f, c :: r, g => ∃ m, PureC Tryz.prog 71 [fav f, c.av] (.tup [fav m, iav 0]) ∧ Chain m r g
theorem qek {c : Change} {m : List Node} : ∀ {f : List Node} {l : List Change} {g : List Node}, Chain f l g → PureC Tryz.prog 71 [fav g, c.av] (.tup [fav m, iav 0]) → Chain f (l ++ [c]) m
  | f, [], g, h, h2 => by
    have e : f = g := h
    subst e
    exact ⟨m, h2, rfl⟩
  | f, d :: r, g, h, h2 => by
    obtain ⟨k, h3, h4⟩ := h
    exact ⟨k, h3, qek h4 h2⟩
theorem qj4 {f : List Node} {p : PS} {c : Change} (hp : InvP p) (hc : p.why = 0 → CanCh p.F c) (h : Chain f p.L p.F) : Chain f (doS p c).1.L (doS p c).1.F := by
  unfold doS
  by_cases h0 : p.why = 0
  · rw [if_neg (by omega)]
    by_cases hw : (doneG p.F c).2 = 0
    · rw [if_neg (by omega)]
      refine qek h ?_
      have := qjo p.F c hp.fit hp.right hp.pos (hc h0)
      rw [hw] at this
      exact this
    · rw [if_pos hw]
      exact h
  · rw [if_pos h0]
    exact h
theorem qh1 {f : List Node} {p : PS} {h off cnt : Int} {v : List Int} (hp : InvP p) (hc : p.why = 0 → (replP (nodeAt p.F h).data off cnt v).2 = 0 → CanCh p.F (putC p.F h off cnt v)) (hch : Chain f p.L p.F) : Chain f (putS p h off cnt v).L (putS p h off cnt v).F := by
  unfold putS
  by_cases h1 : (replP (nodeAt p.F h).data off cnt v).2 = 0
  · rw [if_neg (by omega)]
    exact qj4 hp (fun h0 => hc h0 h1) hch
  · rw [if_pos h1]
    exact hch
section
variable {f : List Node} {h off : Int} (hf : Fit f) (hr : rightP f) (hh : inR f h) (ht : textB (nodeAt f h).kind) (h0 : 0 ≤ off) (ho : off ≤ (nodeAt f h).data.length)
include hf hr hh ht h0 ho
end
noncomputable def rpQ (f : List Node) (h off cnt : Int) (v : List Int) : PS := putS (pen0 f) h off cnt v
theorem qj5 {k : Int} (h : dataB k) : (traitsOf k).data = true := by
  rcases h with (h | h) | h | h <;> subst h <;> decide
theorem qe4 {l : List Int} {off cnt : Int} {v : List Int} (h0 : 0 ≤ off) (h2 : 0 ≤ cnt) (h : (replP l off cnt v).2 = 0) : off ≤ l.length ∧ (l.length : Int) - (spTo l.length off cnt - off) + v.length ≤ 16384 ∧ replP l off cnt v = (replL l off (spTo l.length off cnt) v, 0) ∧ off ≤ spTo l.length off cnt ∧ spTo l.length off cnt ≤ l.length := by
  unfold replP at h ⊢
  split at h
  · cases h
  · rename_i h1
    split at h
    · cases h
    · rename_i h3
      rw [if_neg h1, if_neg h3]
      refine ⟨by omega, by omega, rfl, ?_, ?_⟩ <;> unfold spTo <;> omega
theorem qcy {f : List Node} {h off cnt : Int} {v : List Int} (hf : Fit f) (hr : rightP f) (hh : inR f h) (hd : dataB (nodeAt f h).kind) (h0 : 0 ≤ off) (h2 : 0 ≤ cnt) (he : (replP (nodeAt f h).data off cnt v).2 = 0) : CanCh f (putC f h off cnt v) ∧ putC f h off cnt v = daCh h off (spTo (nodeAt f h).data.length off cnt - off) v := by
  obtain ⟨a1, a2, a3, a4, a5⟩ := qe4 h0 h2 he
  have ec : putC f h off cnt v = daCh h off (spTo (nodeAt f h).data.length off cnt - off) v := by
    rw [qck, a3]
    congr 1
    unfold replL
    simp only [List.length_append, List.length_take, List.length_drop]
    omega
  refine ⟨?_, ec⟩
  rw [ec]
  exact .dat _ _ _ _ hh (qj5 hd) h0 (by omega) (by omega) (by omega) (by omega)
noncomputable def replA (f : List Node) (h off cnt : Int) (v : List Int) : AV := ansP (cfP f h false) (rpQ f h off cnt v)
theorem qnr (f : List Node) (h off cnt : Int) (v : List Int) (hf : Fit f) (h0 : 0 ≤ off) (h1 : off < 4294967296) (h2 : 0 ≤ cnt) (h3 : cnt < 4294967296) (hv : v.length ≤ 1000000000) : PureC Tryz.prog 19 [fav f, iav h, u32 off, u32 cnt, .imm (.sl (v.map u16))] (replA f h off cnt v) := by
  by_cases he : cfP f h false = 0
  · obtain ⟨hr, hh, _, hd⟩ := qaw he
    obtain ⟨b, hb⟩ := qdz (p := pen0 f) (h := h) (off := off) (cnt := cnt) (v := v) (inv0 hf hr hh) (fun _ hre => (qcy hf hr hh hd h0 h2 hre).1)
    exact qdv f _ b h v off cnt hf h0 h1 h2 h3 hv (fun _ => hb)
  · exact qdv f (rpQ f h off cnt v) true h v off cnt hf h0 h1 h2 h3 hv (fun h => absurd h he)
structure ReplO (f : List Node) (h off cnt : Int) (v : List Int) (g : List Node) : Prop where
  fit : Fit g
  right : rightP g
  len : g.length = f.length
  node : ∀ k, nodeAt g k = if k = h then { nodeAt f h with data := replL (nodeAt f h).data off (spTo (nodeAt f h).data.length off cnt) v } else nodeAt f k
theorem qlt {f : List Node} {h off cnt : Int} {v : List Int} (hf : Fit f) (hr : rightP f) (hh : inR f h) (hd : dataB (nodeAt f h).kind) (h0 : 0 ≤ off) (h2 : 0 ≤ cnt) (hw : (rpQ f h off cnt v).why = 0) : ReplO f h off cnt v (rpQ f h off cnt v).F ∧ (rpQ f h off cnt v).L = [putC f h off cnt v] ∧ Chain f (rpQ f h off cnt v).L (rpQ f h off cnt v).F := by
  have hc : (pen0 f).why = 0 → (replP (nodeAt (pen0 f).F h).data off cnt v).2 = 0 → CanCh (pen0 f).F (putC (pen0 f).F h off cnt v) := fun _ hre => (qcy hf hr hh hd h0 h2 hre).1
  have hi := qhg (inv0 hf hr hh) hc
  have hch := qh1 (f := f) (inv0 hf hr hh) hc rfl
  obtain ⟨_, hre, hdn, e⟩ := qjq hw
  have hre' : (replP (nodeAt f h).data off cnt v).2 = 0 := hre
  obtain ⟨_, ec⟩ := qcy hf hr hh hd h0 h2 hre'
  obtain ⟨a1, a2, a3, a4, a5⟩ := qe4 h0 h2 hre'
  have e' : rpQ f h off cnt v = _ := e
  have eF : (rpQ f h off cnt v).F = datF f h (replL (nodeAt f h).data off (spTo (nodeAt f h).data.length off cnt) v) := by
    rw [e']
    have hdn' : (doneG f (putC f h off cnt v)).2 = 0 := hdn
    show (doneG f (putC f h off cnt v)).1 = _
    rw [ec] at hdn' ⊢
    have ed : doneG f (daCh h off (spTo (nodeAt f h).data.length off cnt - off) v) = doneW f h (repD (atI f (h - 1)).data off (spTo (nodeAt f h).data.length off cnt - off) v) := rfl
    rw [ed] at hdn' ⊢
    rw [← qx hh, show repD (nodeAt f h).data off (spTo (nodeAt f h).data.length off cnt - off) v = replL (nodeAt f h).data off (spTo (nodeAt f h).data.length off cnt) v by unfold repD replL; rw [show off + (spTo (nodeAt f h).data.length off cnt - off) = spTo (nodeAt f h).data.length off cnt by omega]] at hdn' ⊢
    unfold doneW at hdn' ⊢
    split at hdn'
    · rename_i h5; rw [if_pos h5]
    · cases hdn'
  refine ⟨⟨hi.fit, hi.right, ?_, fun k => ?_⟩, ?_, hch⟩
  · rw [eF]; unfold datF; rw [qa4]
  · rw [eF, qhh hh]
  · rw [e']; rfl
theorem qj6 : Fit [] := ⟨by simp, fun n hn => by cases hn⟩
theorem qmj (a b n : Int) : GenC Tryz.prog 66 [⟨25, 1, [[u32 a]]⟩, ⟨25, 1, [[u32 b]]⟩] [u32 n, .ptr 0 1 0 0, .ptr 1 1 0 0] (.tup [u32 a, u32 b]) [⟨25, 1, [[u32 a]]⟩, ⟨25, 1, [[u32 b]]⟩] := by
  refine yah tabs Tryz.func66 8 [.tmp 4, .tmp 5] rfl rfl rfl rfl rfl ?_; intro w0 X γ κ
  (repeat' (first | ((with_reducible show AL _ _ _ _ _); first | (refine yf tabs rfl ?_; try dsimp only [len, List.nil_append, List.cons_append]) | refine yn ?_) | ((with_reducible show DQ _ _ _ _ _ _); first | refine DQ.stepc (LS.val tabs rfl rfl rfl) rfl rfl rfl rfl rfl ?_ | refine DQ.stepc (yu rfl rfl) rfl rfl rfl rfl rfl ?_ | refine DQ.nilM (by kernel_rfl) ?_) | refine ym ?_ | refine ya ?_ | refine yb ?_ | refine yg ?_ | refine yo ?_ | refine yc ?_ | refine yr mixed (by kernel_rfl) ?_))
  exact yal 2 rfl rfl rfl rfl rfl (by simp [cxG])
theorem qj7 (f : List Node) (h : Int) (v : List Int) (a b : Int) (hf : Fit f) (he : cfP f h false ≠ 0) : GenC Tryz.prog 61 [⟨25, 1, [[u32 a]]⟩, ⟨25, 1, [[u32 b]]⟩] [fav f, iav h, .imm (.sl (v.map u16)), .fn 66 [.ptr 0 1 0 0, .ptr 1 1 0 0]] (.tup [.agg [.nils], .nils, iav (cfP f h false)]) [⟨25, 1, [[u32 a]]⟩, ⟨25, 1, [[u32 b]]⟩] := by
  have c1 := q8 f h false hf
  obtain ⟨w, hw⟩ : ∃ w, w = cfP f h false := ⟨_, rfl⟩
  rw [← hw] at c1 he ⊢
  refine yah tabs Tryz.func61 46 [.cell 8 24, .tmp 9, .tmp 10] rfl rfl rfl rfl rfl ?_; intro w0 X γ κ
  (repeat' (first | ((with_reducible show AL _ _ _ _ _); first | (refine yf tabs rfl ?_; try dsimp only [len, List.nil_append, List.cons_append]) | refine AL.op rfl (yd rfl rfl rfl rfl c1 rfl) ?_ | refine yn ?_) | ((with_reducible show DQ _ _ _ _ _ _); first | refine DQ.stepc (LS.store (i := ti24) (v := .agg [.nils]) (ty := 24) (sz := 1) (rows := [ti24.zero]) (r := ti24.zero) tabs rfl rfl rfl rfl rfl rfl rfl rfl rfl rfl (Nat.le_of_ble_eq_true rfl) rfl) rfl rfl rfl rfl rfl ?_ | refine DQ.stepc (LS.val tabs rfl rfl rfl) rfl rfl rfl rfl rfl ?_ | refine DQ.stepc (yu rfl rfl) rfl rfl rfl rfl rfl ?_ | refine DQ.nilM (by kernel_rfl) ?_) | refine ym ?_ | refine ya ?_ | refine yb ?_ | refine yg ?_ | refine yi rfl ?_ | refine yh rfl ?_ | (refine yk rfl (fun hc => ?_) (fun hc => ?_) <;> (try simp only [hsx] at hc) <;> (try first | omega | contradiction | (simp [qa] at hc; done))) | refine yo ?_ | refine yc ?_ | refine yr mixed (by kernel_rfl) ?_))
  all_goals first
    | (exfalso; exact he hc)
    | exact yal 2 rfl rfl rfl rfl rfl (by simp [cxG])
theorem qh2 (f : List Node) (q : PS) (bb : Bool) (h : Int) (v : List Int) (a b : Int) (hf : Fit f) (a0 : 0 ≤ a) (a1 : a < 4294967296) (b0 : 0 ≤ b) (b1 : b < 4294967296) (hv : v.length ≤ 1000000000) (he : cfP f h false = 0) (H : PutR h a b v (pen0 f) q bb) (hw : q.why ≠ 0) : GenC Tryz.prog 61 [⟨25, 1, [[u32 a]]⟩, ⟨25, 1, [[u32 b]]⟩] [fav f, iav h, .imm (.sl (v.map u16)), .fn 66 [.ptr 0 1 0 0, .ptr 1 1 0 0]] (.tup [.agg [.nils], .nils, iav q.why]) [⟨25, 1, [[u32 a]]⟩, ⟨25, 1, [[u32 b]]⟩] := by
  have c1 := q8 f h false hf
  rw [he] at c1
  have hl := hf.len
  have hdl := (hf.at h).data
  have c2 := qw f h hl
  have hmn : ((nodeAt f h).data.map u16).length = (nodeAt f h).data.length := List.length_map _
  have c3 := qcq (pen0 f) q h a b v bb hf (by simp [pen0]) a0 a1 b0 b1 hv H
  have c4 := qeb q hw
  obtain ⟨n, hn⟩ : ∃ n, n = nodeAt f h := ⟨_, rfl⟩
  rw [← hn] at c2 hdl hmn
  unfold penB pen0 at c3
  refine yah tabs Tryz.func61 46 [.cell 8 24, .tmp 9, .tmp 10] rfl rfl rfl rfl rfl ?_; intro w0 X γ κ
  refine AW.reserve 112 3 rfl ?_
  (repeat' (first | ((with_reducible show AL _ _ _ _ _); first | refine AL.op rfl (yaz tabs rfl rfl rfl rfl rfl rfl (by omega) (by omega)) ?_ | (refine yf tabs rfl ?_; try dsimp only [len, List.nil_append, List.cons_append]) | refine AL.op rfl (yd rfl rfl rfl rfl c1 rfl) ?_ | refine yz [2] 5 rfl rfl rfl rfl rfl (caps := []) rfl (on_c f) rfl rfl rfl rfl rfl rfl rfl rfl (hpA := [⟨112, 3, [[.imm (.sl (f.map Node.iv)), .os 6 0, iav 0]]⟩, ⟨24, 1, [[.imm (.sl (f.map Node.iv))]]⟩, ⟨58, 36, []⟩]) rfl (r' := .ptr 2 1 0 0) rfl rfl ?_; try dsimp only [setAll, List.drop_succ_cons, List.drop_zero, List.drop_nil, List.set_cons_succ, List.set_cons_zero, List.cons_append, List.nil_append, List.append_nil, len] | refine AL.op rfl (yd rfl rfl rfl rfl c2 rfl) ?_ | refine yz [0, 1] 7 rfl rfl rfl rfl (caps := [.ptr 0 1 0 0, .ptr 1 1 0 0]) rfl rfl (qmj a b _) rfl rfl rfl rfl rfl rfl rfl rfl (hpA := [⟨25, 1, [[u32 a]]⟩, ⟨25, 1, [[u32 b]]⟩]) rfl (r' := .tup [u32 a, u32 b]) rfl rfl ?_ | refine yz [2, 6] 7 rfl rfl rfl rfl rfl (caps := []) rfl c3 rfl (by simp only [List.map_cons, List.map_nil, renC]; rfl) rfl rfl (by simp only [qax]; exact ⟨⟨rfl, rfl, rfl⟩, qd _ _⟩) rfl (by simp only [qax]; exact ⟨⟨rfl, rfl, rfl⟩, qd _ _⟩) rfl (hpA := [⟨112, 3, [[.imm (.sl ((q).F.map Node.iv)), .os 6 (q).L.length, iav (q).why]]⟩, ⟨58, 36, (q).L.map rowC⟩]) (by simp only [List.map_cons, List.map_nil, renC]; rfl) (r' := bav bb) rfl rfl ?_; try dsimp only [setAll, List.drop_succ_cons, List.drop_zero, List.drop_nil, List.set_cons_succ, List.set_cons_zero, List.cons_append, List.nil_append, List.append_nil, len, Nat.reduceAdd] | refine yz [2, 6] 7 rfl rfl rfl rfl rfl (caps := []) rfl c4 rfl (by simp only [List.map_cons, List.map_nil, renC]; rfl) rfl rfl (by simp only [qax]; exact ⟨⟨rfl, rfl, rfl⟩, qd _ _⟩) rfl (by simp only [qax]; exact ⟨⟨rfl, rfl, rfl⟩, qd _ _⟩) rfl (hpA := [⟨112, 3, [[.imm (.sl ((q).F.map Node.iv)), .os 6 (q).L.length, iav (q).why]]⟩, ⟨58, 36, (q).L.map rowC⟩]) (by simp only [List.map_cons, List.map_nil, renC]; rfl) (r' := .tup [.agg [.nils], .nils, iav q.why]) rfl rfl ?_; try dsimp only [setAll, List.drop_succ_cons, List.drop_zero, List.drop_nil, List.set_cons_succ, List.set_cons_zero, List.cons_append, List.nil_append, List.append_nil, len, Nat.reduceAdd] | refine yn ?_) | ((with_reducible show DQ _ _ _ _ _ _); first | refine DQ.stepc (LS.store (i := ti24) (v := .agg [.nils]) (ty := 24) (sz := 1) (rows := [ti24.zero]) (r := ti24.zero) tabs rfl rfl rfl rfl rfl rfl rfl rfl rfl rfl (Nat.le_of_ble_eq_true rfl) rfl) rfl rfl rfl rfl rfl ?_ | refine DQ.stepc (LS.val tabs rfl rfl rfl) rfl rfl rfl rfl rfl ?_ | refine DQ.stepc (yu rfl rfl) rfl rfl rfl rfl rfl ?_ | refine DQ.nilM (by kernel_rfl) ?_) | refine ym ?_ | refine ya ?_ | refine yb ?_ | refine yg ?_ | refine yi rfl ?_ | refine yh rfl ?_ | (refine yk rfl (fun hc => ?_) (fun hc => ?_) <;> (try simp only [hsx] at hc) <;> (try first | omega | contradiction | (simp [qa] at hc; done))) | refine yo ?_ | refine yc ?_ | refine yr mixed (by kernel_rfl) ?_))
  exact yal 2 rfl rfl rfl rfl rfl (by simp [cxG])
theorem qns (f : List Node) (q : PS) (bb : Bool) (h : Int) (v : List Int) (a b : Int) (hf : Fit f) (a0 : 0 ≤ a) (a1 : a < 4294967296) (b0 : 0 ≤ b) (b1 : b < 4294967296) (hv : v.length ≤ 1000000000) (he : cfP f h false = 0) (H : PutR h a b v (pen0 f) q bb) (hw : q.why = 0) (hL : q.L.length ≤ 1000000) (hL0 : q.L ≠ []) (hfc : ∀ i : Int, 0 ≤ i → i < q.L.length → FitC (atI q.L i)) : GenC Tryz.prog 61 [⟨25, 1, [[u32 a]]⟩, ⟨25, 1, [[u32 b]]⟩] [fav f, iav h, .imm (.sl (v.map u16)), .fn 66 [.ptr 0 1 0 0, .ptr 1 1 0 0]] (.tup [fav q.F, .os 8 q.L.length, iav 0]) [⟨25, 1, [[u32 a]]⟩, ⟨25, 1, [[u32 b]]⟩, ⟨112, 3, [[.imm (.sl ((q).F.map Node.iv)), .os 6 (q).L.length, iav (q).why]]⟩, ⟨24, 1, [[.imm (.sl (f.map Node.iv))]]⟩, ⟨24, 1, [[.imm (.sl ((q).F.map Node.iv))]]⟩, ⟨24, 1, [[.imm (.sl (f.map Node.iv))]]⟩, ⟨58, 36, (q).L.map rowC⟩, ⟨24, 1, [[.imm (.sl ((q).F.map Node.iv))]]⟩, ⟨58, 36, (q).L.map rowC⟩] := by
  have c1 := q8 f h false hf
  rw [he] at c1
  have hl := hf.len
  have hdl := (hf.at h).data
  have c2 := qw f h hl
  have hmn : ((nodeAt f h).data.map u16).length = (nodeAt f h).data.length := List.length_map _
  have c3 := qcq (pen0 f) q h a b v bb hf (by simp [pen0]) a0 a1 b0 b1 hv H
  have c4 := qhp q hw hL hL0 hfc
  obtain ⟨n, hn⟩ : ∃ n, n = nodeAt f h := ⟨_, rfl⟩
  rw [← hn] at c2 hdl hmn
  unfold penB pen0 at c3
  refine yah tabs Tryz.func61 46 [.cell 8 24, .tmp 9, .tmp 10] rfl rfl rfl rfl rfl ?_; intro w0 X γ κ
  refine AW.reserve 112 3 rfl ?_
  (repeat' (first | ((with_reducible show AL _ _ _ _ _); first | refine AL.op rfl (yaz tabs rfl rfl rfl rfl rfl rfl (by omega) (by omega)) ?_ | (refine yf tabs rfl ?_; try dsimp only [len, List.nil_append, List.cons_append]) | refine AL.op rfl (yd rfl rfl rfl rfl c1 rfl) ?_ | refine yz [2] 5 rfl rfl rfl rfl rfl (caps := []) rfl (on_c f) rfl rfl rfl rfl rfl rfl rfl rfl (hpA := [⟨112, 3, [[.imm (.sl (f.map Node.iv)), .os 6 0, iav 0]]⟩, ⟨24, 1, [[.imm (.sl (f.map Node.iv))]]⟩, ⟨58, 36, []⟩]) rfl (r' := .ptr 2 1 0 0) rfl rfl ?_; try dsimp only [setAll, List.drop_succ_cons, List.drop_zero, List.drop_nil, List.set_cons_succ, List.set_cons_zero, List.cons_append, List.nil_append, List.append_nil, len] | refine AL.op rfl (yd rfl rfl rfl rfl c2 rfl) ?_ | refine yz [0, 1] 7 rfl rfl rfl rfl (caps := [.ptr 0 1 0 0, .ptr 1 1 0 0]) rfl rfl (qmj a b _) rfl rfl rfl rfl rfl rfl rfl rfl (hpA := [⟨25, 1, [[u32 a]]⟩, ⟨25, 1, [[u32 b]]⟩]) rfl (r' := .tup [u32 a, u32 b]) rfl rfl ?_ | refine yz [2, 6] 7 rfl rfl rfl rfl rfl (caps := []) rfl c3 rfl (by simp only [List.map_cons, List.map_nil, renC]; rfl) rfl rfl (by simp only [qax]; exact ⟨⟨rfl, rfl, rfl⟩, qd _ _⟩) rfl (by simp only [qax]; exact ⟨⟨rfl, rfl, rfl⟩, qd _ _⟩) rfl (hpA := [⟨112, 3, [[.imm (.sl ((q).F.map Node.iv)), .os 6 (q).L.length, iav (q).why]]⟩, ⟨58, 36, (q).L.map rowC⟩]) (by simp only [List.map_cons, List.map_nil, renC]; rfl) (r' := bav bb) rfl rfl ?_; try dsimp only [setAll, List.drop_succ_cons, List.drop_zero, List.drop_nil, List.set_cons_succ, List.set_cons_zero, List.cons_append, List.nil_append, List.append_nil, len, Nat.reduceAdd] | refine yz [2, 6] 7 rfl rfl rfl rfl rfl (caps := []) rfl c4 rfl (by simp only [List.map_cons, List.map_nil, renC]; rfl) rfl rfl (by simp only [qax]; exact ⟨⟨rfl, rfl, rfl⟩, qd _ _⟩) rfl (by simp only [qax]; exact ⟨⟨rfl, rfl, rfl⟩, qd _ _, rfl, qd _ _⟩) rfl (hpA := [⟨112, 3, [[.imm (.sl ((q).F.map Node.iv)), .os 6 (q).L.length, iav (q).why]]⟩, ⟨58, 36, (q).L.map rowC⟩, ⟨24, 1, [[.imm (.sl ((q).F.map Node.iv))]]⟩, ⟨58, 36, (q).L.map rowC⟩]) (by simp only [List.map_cons, List.map_nil, renC]; rfl) (r' := .tup [fav q.F, .os 8 q.L.length, iav 0]) rfl rfl ?_; try dsimp only [setAll, List.drop_succ_cons, List.drop_zero, List.drop_nil, List.set_cons_succ, List.set_cons_zero, List.cons_append, List.nil_append, List.append_nil, len, Nat.reduceAdd] | refine yn ?_) | ((with_reducible show DQ _ _ _ _ _ _); first | refine DQ.stepc (LS.store (i := ti24) (v := fav q.F) (ty := 24) (sz := 1) (rows := [ti24.zero]) (r := ti24.zero) tabs rfl rfl rfl rfl rfl rfl rfl rfl rfl rfl (Nat.le_of_ble_eq_true rfl) rfl) rfl rfl rfl rfl rfl ?_ | refine DQ.stepc (LS.val tabs rfl rfl rfl) rfl rfl rfl rfl rfl ?_ | refine DQ.stepc (yu rfl rfl) rfl rfl rfl rfl rfl ?_ | refine DQ.nilM (by kernel_rfl) ?_) | refine ym ?_ | refine ya ?_ | refine yb ?_ | refine yg ?_ | refine yi rfl ?_ | refine yh rfl ?_ | (refine yk rfl (fun hc => ?_) (fun hc => ?_) <;> (try simp only [hsx] at hc) <;> (try first | omega | contradiction | (simp [qa] at hc; done))) | refine yo ?_ | refine yc ?_ | refine yr mixed (by kernel_rfl) ?_))
  exact yal 9 rfl rfl rfl rfl (by simp only [qax]; exact ⟨rfl, rfl, ⟨rfl, rfl, rfl⟩, rfl, rfl, rfl, qd _ _, rfl, qd _ _⟩) (by simp [cxG])
theorem qhj (f : List Node) (q : PS) (bb : Bool) (h : Int) (a b : Int) (hf : Fit f) (a0 : 0 ≤ a) (a1 : a < 4294967296) (b0 : 0 ≤ b) (b1 : b < 4294967296) (H : cfP f h false = 0 → PutR h a b [] (pen0 f) q bb) : PureC Tryz.prog 23 [fav f, iav h, u32 a, u32 b] (ansP (cfP f h false) q) := by
  unfold ansP
  by_cases he : cfP f h false = 0
  · rw [if_neg (by omega)]
    have H := H he
    by_cases hw : q.why = 0
    · rw [if_neg (by omega)]
      have hLe := H.len rfl hw
      rw [show (pen0 f).L = [] from rfl, List.nil_append] at hLe
      have c1 := qns f q bb h [] a b hf a0 a1 b0 b1 (by simp) he H hw (by rw [hLe]; simp) (by rw [hLe]; simp) (by
        rw [hLe]
        intro i i0 i1
        have : i = 0 := by simp at i1; omega
        subst this
        exact qb7 _ _ _ _ _ (by simp))
      refine yp tabs Tryz.func23 18 [.cell 8 24, .tmp 9, .tmp 10] rfl rfl rfl rfl rfl ?_; intro w0 X
      (repeat' (first | ((with_reducible show AL _ _ _ _ _); first | (refine yf tabs rfl ?_; try dsimp only [len, List.nil_append, List.cons_append]) | refine yz [1, 2] 4 rfl rfl rfl rfl rfl (caps := []) rfl (GenC.cv (ab := [fav f, iav h, .nils, .fn 66 [.ptr 0 1 0 0, .ptr 1 1 0 0]]) c1 rfl) rfl rfl rfl rfl rfl rfl (by simp only [qax]; exact ⟨rfl, rfl, ⟨rfl, rfl, rfl⟩, rfl, rfl, rfl, qd _ _, rfl, qd _ _⟩) rfl (hpA := [⟨25, 1, [[u32 a]]⟩, ⟨25, 1, [[u32 b]]⟩, ⟨112, 3, [[.imm (.sl ((q).F.map Node.iv)), .os 8 (q).L.length, iav (q).why]]⟩, ⟨24, 1, [[.imm (.sl (f.map Node.iv))]]⟩, ⟨24, 1, [[.imm (.sl ((q).F.map Node.iv))]]⟩, ⟨24, 1, [[.imm (.sl (f.map Node.iv))]]⟩, ⟨58, 36, (q).L.map rowC⟩, ⟨24, 1, [[.imm (.sl ((q).F.map Node.iv))]]⟩, ⟨58, 36, (q).L.map rowC⟩]) (by simp only [List.map_cons, List.map_nil, renC]; rfl) (r' := .tup [fav q.F, .os 10 q.L.length, iav 0]) rfl rfl ?_; try dsimp only [setAll, List.drop_succ_cons, List.drop_zero, List.drop_nil, List.set_cons_succ, List.set_cons_zero, List.cons_append, List.nil_append, List.append_nil, len, Nat.reduceAdd] | refine yn ?_) | ((with_reducible show DQ _ _ _ _ _ _); first | refine DQ.stepc (LS.store (i := ti24) (v := fav q.F) (ty := 24) (sz := 1) (rows := [ti24.zero]) (r := ti24.zero) tabs rfl rfl rfl rfl rfl rfl rfl rfl rfl rfl (Nat.le_of_ble_eq_true rfl) rfl) rfl rfl rfl rfl rfl ?_ | refine DQ.stepc (LS.val tabs rfl rfl rfl) rfl rfl rfl rfl rfl ?_ | refine DQ.stepc (yu rfl rfl) rfl rfl rfl rfl rfl ?_ | refine DQ.nilM (by kernel_rfl) ?_) | refine ym ?_ | refine ya ?_ | refine yb ?_ | refine yg ?_ | refine yo ?_ | refine yc ?_ | refine yr mixed (by kernel_rfl) ?_))
      exact yap rfl (ya5 (.cons (Fz.im rfl) (.cons (Fz.os (b := ⟨58, 36, q.L.map rowC⟩) (rows := q.L.map Change.iv) rfl (List.length_map _).symm (by rw [List.map_map]; rfl)) (.cons (Fz.im rfl) .nil))))
    · rw [if_pos hw]
      have c1 := qh2 f q bb h [] a b hf a0 a1 b0 b1 (by simp) he H hw
      refine yp tabs Tryz.func23 18 [.cell 8 24, .tmp 9, .tmp 10] rfl rfl rfl rfl rfl ?_; intro w0 X
      (repeat' (first | ((with_reducible show AL _ _ _ _ _); first | (refine yf tabs rfl ?_; try dsimp only [len, List.nil_append, List.cons_append]) | refine yz [1, 2] 4 rfl rfl rfl rfl rfl (caps := []) rfl (GenC.cv (ab := [fav f, iav h, .nils, .fn 66 [.ptr 0 1 0 0, .ptr 1 1 0 0]]) c1 rfl) rfl rfl rfl rfl rfl rfl rfl rfl (hpA := [⟨25, 1, [[u32 a]]⟩, ⟨25, 1, [[u32 b]]⟩]) rfl (r' := .tup [.agg [.nils], .nils, iav q.why]) rfl rfl ?_; try dsimp only [setAll, List.drop_succ_cons, List.drop_zero, List.drop_nil, List.set_cons_succ, List.set_cons_zero, List.cons_append, List.nil_append, List.append_nil, len, Nat.reduceAdd] | refine yn ?_) | ((with_reducible show DQ _ _ _ _ _ _); first | refine DQ.stepc (LS.store (i := ti24) (v := .agg [.nils]) (ty := 24) (sz := 1) (rows := [ti24.zero]) (r := ti24.zero) tabs rfl rfl rfl rfl rfl rfl rfl rfl rfl rfl (Nat.le_of_ble_eq_true rfl) rfl) rfl rfl rfl rfl rfl ?_ | refine DQ.stepc (LS.val tabs rfl rfl rfl) rfl rfl rfl rfl rfl ?_ | refine DQ.stepc (yu rfl rfl) rfl rfl rfl rfl rfl ?_ | refine DQ.nilM (by kernel_rfl) ?_) | refine ym ?_ | refine ya ?_ | refine yb ?_ | refine yg ?_ | refine yo ?_ | refine yc ?_ | refine yr mixed (by kernel_rfl) ?_))
      exact RQ.fin rfl rfl rfl
  · rw [if_pos he]
    have c1 := qj7 f h [] a b hf he
    refine yp tabs Tryz.func23 18 [.cell 8 24, .tmp 9, .tmp 10] rfl rfl rfl rfl rfl ?_; intro w0 X
    (repeat' (first | ((with_reducible show AL _ _ _ _ _); first | (refine yf tabs rfl ?_; try dsimp only [len, List.nil_append, List.cons_append]) | refine yz [1, 2] 4 rfl rfl rfl rfl rfl (caps := []) rfl (GenC.cv (ab := [fav f, iav h, .nils, .fn 66 [.ptr 0 1 0 0, .ptr 1 1 0 0]]) c1 rfl) rfl rfl rfl rfl rfl rfl rfl rfl (hpA := [⟨25, 1, [[u32 a]]⟩, ⟨25, 1, [[u32 b]]⟩]) rfl (r' := .tup [.agg [.nils], .nils, iav (cfP f h false)]) rfl rfl ?_; try dsimp only [setAll, List.drop_succ_cons, List.drop_zero, List.drop_nil, List.set_cons_succ, List.set_cons_zero, List.cons_append, List.nil_append, List.append_nil, len, Nat.reduceAdd] | refine yn ?_) | ((with_reducible show DQ _ _ _ _ _ _); first | refine DQ.stepc (LS.store (i := ti24) (v := .agg [.nils]) (ty := 24) (sz := 1) (rows := [ti24.zero]) (r := ti24.zero) tabs rfl rfl rfl rfl rfl rfl rfl rfl rfl rfl (Nat.le_of_ble_eq_true rfl) rfl) rfl rfl rfl rfl rfl ?_ | refine DQ.stepc (LS.val tabs rfl rfl rfl) rfl rfl rfl rfl rfl ?_ | refine DQ.stepc (yu rfl rfl) rfl rfl rfl rfl rfl ?_ | refine DQ.nilM (by kernel_rfl) ?_) | refine ym ?_ | refine ya ?_ | refine yb ?_ | refine yg ?_ | refine yo ?_ | refine yc ?_ | refine yr mixed (by kernel_rfl) ?_))
    exact RQ.fin rfl rfl rfl
end Go.Proofs.YtmhejcnaanocpaaGreat.A
