/- The law ChardataSplits of package canopylaw05 is true for every input whose arguments hold together at most 1048576 values and letters: the statement 'ChardataSplitsUptoSaid'. Conditions: that bound alone. -/
import Derived.Test.YtmhejcnaanocpaaGreatXSplGrpBB
import Derived.Test.YtmhejcnaanocpaaGreatXSplGrpBA
import Derived.Test.YtmhejcnaanocpaaGreatXSplGrpAX
import Derived.Test.YtmhejcnaanocpaaGreatRows
import Derived.Test.YtmhejcnaanocpaaGreatXSplGrpAK
import Derived.ChangeArms
import Derived.WideShapes
import Derived.WalkKit
import Derived.ProofKit
import Derived.OpenShut
import Derived.ShutString
import Derived.ChangeOld
import Derived.Below
import Derived.JoinedCond
namespace Go.Proofs.YtmhejcnaanocpaaGreat.A
open Go.RowKit
set_option linter.unusedVariables false
set_option linter.unusedSimpArgs false
set_option maxRecDepth 100000
set_option maxHeartbeats 4000000
theorem qhe {p : PS} (h : p.why ≠ 0) (c : Change) : (doS p c).1 = p := by unfold doS; rw [if_pos h]
theorem qjy {p : PS} (hw : p.why ≠ 0) (h off cnt : Int) (v : List Int) : putS p h off cnt v = p := by
  unfold putS
  split
  · unfold refP; rw [if_neg hw]
  · exact qhe hw _
section
variable {f : List Node} {h off : Int} (hf : Fit f) (hr : rightP f) (hh : inR f h) (ht : textB (nodeAt f h).kind) (h0 : 0 ≤ off) (ho : off ≤ (nodeAt f h).data.length)
include hf hr hh ht h0 ho
theorem beside1 (hp : (nodeAt f h).parent ≠ 0) (hb : (spl1 f h off).2 = true) : besideP (spl1 f h off).1.F h 1 = besideP f h 1 ∧ idx (nodeAt (spl1 f h off).1.F (nodeAt (spl1 f h off).1.F h).parent).kids h = placeP f h := by
  obtain ⟨hq, i0, i1, _, hpl⟩ := qge hf hr hh ht h0 ho hp
  have hq2 := hq.2
  have hh2 := hh.2
  rw [ok1 hf hr hh ht h0 ho hb]
  have e1 : nodeAt (f ++ [restN f h off]) h = nodeAt f h := by rw [qau, if_neg (by omega)]
  have e2 : nodeAt (f ++ [restN f h off]) (nodeAt f h).parent = nodeAt f (nodeAt f h).parent := by rw [qau, if_neg (by omega)]
  refine ⟨?_, ?_⟩
  · show besideP (f ++ [restN f h off]) h 1 = _
    unfold besideP
    rw [e1, e2]
  · show idx (nodeAt (f ++ [restN f h off]) (nodeAt (f ++ [restN f h off]) h).parent).kids h = _
    rw [e1, e2, hpl]
theorem stop1 (hb : (spl1 f h off).2 = false) : (spl1 f h off).1.why ≠ 0 := by
  have _ := hf; have _ := hr; have _ := hh; have _ := ht; have _ := h0; have _ := ho
  intro hw
  have : (spl1 f h off).2 = true := (qet _ _).2 hw
  rw [hb] at this
  cases this
theorem putEq4 (hw : (spl4 f h off).why = 0) : replP (nodeAt (spl4 f h off).F h).data off 4294967295 [] = replP (nodeAt (spl4 f h off).F h).data off (restL f h off).length [] ∧ putC (spl4 f h off).F h off 4294967295 [] = putC (spl4 f h off).F h off (restL f h off).length [] := by
  obtain ⟨e, hin, hl⟩ := self4 hf hr hh ht h0 ho hw
  have hdl := (hf.at h).data
  have hre' := qgd f h off h0 hdl ho
  have hrl : ((restL f h off).length : Int) = (nodeAt f h).data.length - off := by rw [hre']; simp; omega
  have e1 := qdt (nodeAt f h).data off (restL f h off).length [] h0 (by omega) ho (by omega)
  have e2 := qdt (nodeAt f h).data off 4294967295 [] h0 (by omega) ho (by omega)
  have ep : replP (nodeAt (spl4 f h off).F h).data off 4294967295 [] = replP (nodeAt (spl4 f h off).F h).data off (restL f h off).length [] := by rw [e, e1, e2]
  exact ⟨ep, by rw [qcu, qcu, ep]⟩
theorem endQ : rputS (spl4 f h off) h off 4294967295 [] = splQ f h off := by
  unfold rputS splQ
  by_cases hw : (spl4 f h off).why = 0
  · rw [if_neg (by omega)]
    obtain ⟨e1, e2⟩ := putEq4 hf hr hh ht h0 ho hw
    unfold putS
    rw [e1, e2]
  · rw [if_pos hw, qjy hw]
theorem D1_c : PureC Tryz.prog 89 [actA (pen0 f), (mkCh (f.length + 1) (restN f h off)).av] (actA (spl1 f h off).1) :=
  qhv (pen0 f) _ (inv0 hf hr hh) (by simp [pen0]) fun _ => can1 hf hr hh ht h0 ho
theorem D5_c : PureC Tryz.prog 64 [actA (spl4 f h off), iav h, u32 off, u32 4294967295, .imm (.sl (([] : List Int).map u16))] (actA (splQ f h off)) := by
  have hdl := (hf.at h).data
  have h1 : off < 4294967296 := by omega
  have := qgh (spl4 f h off) h off 4294967295 [] (inv4 hf hr hh ht h0 ho) (by have := len4 hf hr hh ht h0 ho; omega) h0 h1 (by omega) (by omega) (by simp) (fun hw hre => by
    obtain ⟨e1, e2⟩ := putEq4 hf hr hh ht h0 ho hw
    rw [e2]
    rw [e1] at hre
    exact (can5 hf hr hh ht h0 ho hw hre).1)
  rw [endQ hf hr hh ht h0 ho] at this
  exact this
theorem qoj (hp : (nodeAt f h).parent ≠ 0) : ∃ (b i : Int) (q2 q3 : PS), PureC Tryz.prog 75 [fav (spl1 f h off).1.F, iav h, iav 1] (iav b) ∧ PureC Tryz.prog 90 [fav (spl1 f h off).1.F, iav h] (iav i) ∧ (-1 ≤ i ∧ i ≤ 1000000000) ∧
    PureC Tryz.prog 89 [actA (spl1 f h off).1, (inCh (f.length + 1) (nodeAt f h).parent (i + 1)).av] (actA q2) ∧ PureC Tryz.prog 89 [actA q2, (treeCh (nodeAt f h).parent (f.length + 1) h b).av] (actA q3) ∧ PureC Tryz.prog 89 [actA q3, (splitCh h (f.length + 1) off).av] (actA (spl4 f h off)) := by
  have I1 := inv1 hf hr hh ht h0 ho
  have cb := qi8 (spl1 f h off).1.F h 1 I1.fit (by omega) (by omega)
  have cp := qha (spl1 f h off).1.F h I1.fit
  have b3 := qi5 (nodeAt (spl1 f h off).1.F (nodeAt (spl1 f h off).1.F h).parent).kids h
  have b4 := qg9 (nodeAt (spl1 f h off).1.F (nodeAt (spl1 f h off).1.F h).parent).kids h
  have b5 := (I1.fit.at (nodeAt (spl1 f h off).1.F h).parent).kids
  have l1 := len1 hf hr hh ht h0 ho
  have l2 := len2 hf hr hh ht h0 ho
  have l3 := len3 hf hr hh ht h0 ho
  by_cases hb : (spl1 f h off).2 = true
  · obtain ⟨e1, e2⟩ := beside1 hf hr hh ht h0 ho hp hb
    rw [e1] at cb
    rw [e2] at cp b3 b4
    refine ⟨_, _, spl2 f h off, spl3 f h off, cb, cp, ⟨by omega, by omega⟩, ?_, ?_, ?_⟩
    · exact qhv _ _ I1 (by omega) fun hw => can2 hf hr hh ht h0 ho hp hw
    · exact qhv _ _ (inv2 hf hr hh ht h0 ho hp) (by omega) fun _ => .tree _ _ _ _
    · have := qhv _ (splitCh h (f.length + 1) off) (inv3 hf hr hh ht h0 ho hp) (by omega) fun _ => .spl _ _ _
      rw [show spl4 f h off = (doS (spl3 f h off) (splitCh h (f.length + 1) off)).1 by unfold spl4; rw [if_pos ⟨hb, hp⟩]]
      exact this
  · have hb : (spl1 f h off).2 = false := by simpa using hb
    have hs := stop1 hf hr hh ht h0 ho hb
    have hD : ∀ c : Change, PureC Tryz.prog 89 [actA (spl1 f h off).1, c.av] (actA (spl1 f h off).1) := fun c => by
      have := qhv (spl1 f h off).1 c I1 (by omega) fun hw => absurd hw hs
      rw [qhe hs] at this
      exact this
    refine ⟨_, _, (spl1 f h off).1, (spl1 f h off).1, cb, cp, ⟨by omega, by omega⟩, hD _, hD _, ?_⟩
    rw [show spl4 f h off = (spl1 f h off).1 by unfold spl4; rw [if_neg (by rw [hb]; simp)]]
    exact hD _
theorem qjz (hp : (nodeAt f h).parent = 0) : spl4 f h off = (spl1 f h off).1 := by
  have _ := hf; have _ := hr; have _ := hh; have _ := ht; have _ := h0; have _ := ho
  unfold spl4; rw [if_neg]; exact fun hx => hx.2 hp
end
def rowA (p : PS) : List AV := [.imm (.sl (p.F.map Node.iv)), .imm (.sl (p.L.map Change.iv)), iav p.why]
theorem qj0 (f : List Node) (h off : Int) (n : Node) (b : Bool) (l : List Int) (q1 q5 : PS) (hl : f.length ≤ 1000000000) (hp : n.parent = 0) (h0 : 0 ≤ off) (ho : off ≤ n.data.length) (hdl : n.data.length ≤ 1000000000) (hd : n.data.drop off.toNat = l)
    (c1 : PureC Tryz.prog 52 [fav f, iav h] (.tup [n.av, bav b]))
    (D1 : PureC Tryz.prog 89 [actA (pen0 f), (mkCh ((f.map Node.iv).length + 1) { n0 with kind := 3, doc := n.doc, data := l }).av] (actA q1))
    (D5 : PureC Tryz.prog 64 [actA q1, iav h, u32 off, u32 4294967295, .imm (.sl [])] (actA q5)) : PureC Tryz.prog 53 [actA (pen0 f), iav h, iav off] (.tup [actA q5, iav ((f.map Node.iv).length + 1)]) := by
  have hm : ((pen0 f).F.map Node.iv).length = f.length := List.length_map _
  have hml : (n.data.map u16).length = n.data.length := List.length_map _
  refine yq tabs Tryz.func53 74 [.cell 6 87, .tmp 7] rfl rfl rfl rfl rfl ?_; intro w0 X
  (repeat' (first | ((with_reducible show AL _ _ _ _ _); first | refine AL.op rfl (OpOK.toU32 tabs rfl rfl rfl rfl rfl rfl (by omega) (by omega)) ?_ | (refine yg tabs rfl ?_; try dsimp only [len, List.nil_append, List.cons_append]) | refine AL.op rfl (ye rfl rfl rfl rfl c1 rfl) ?_ | (refine AL.op rfl (yf rfl rfl rfl rfl rfl (by omega) (by omega)) ?_) | refine AL.op rfl (OpOK.callcv rfl rfl rfl rfl rfl D5 rfl) ?_ | refine yo ?_ | (refine AL.op rfl (yf rfl rfl rfl rfl rfl (by omega) (by omega)) ?_)) | ((with_reducible show DQ _ _ _ _ _ _); first | refine DQ.stepc (LS.drop_map (i := ti36) (ie := ti55) (e := 55) (f := u16) (xs := n.data) (ys := l) (h := off) tabs rfl rfl rfl rfl rfl rfl rfl rfl (fun _ => rfl) (by omega) (by omega) hd) rfl rfl rfl rfl rfl ?_ | refine DQ.stepc (LS.callcv rfl rfl rfl rfl rfl rfl D1 rfl) rfl rfl rfl rfl rfl ?_ | refine DQ.stepc (LS.store (i := ti87) (v := actA q1) (ty := 87) (sz := 3) (rows := [avCells (actA (pen0 f))]) (r := avCells (actA (pen0 f))) tabs rfl rfl rfl rfl rfl rfl rfl rfl rfl rfl (Nat.le_of_ble_eq_true rfl) rfl) rfl rfl rfl rfl rfl ?_ | refine DQ.stepc (LS.val tabs rfl rfl rfl) rfl rfl rfl rfl rfl ?_ | refine DQ.stepc (yy rfl rfl) rfl rfl rfl rfl rfl ?_ | refine DQ.nilM (by kernel_rfl) ?_ | refine DQ.stepc (yac rfl rfl rfl rfl rfl rfl (by omega) (by omega)) rfl rfl rfl rfl rfl ?_) | (exfalso; omega) | refine ym ?_ | refine ya ?_ | refine yb ?_ | refine yh ?_ | refine yj rfl ?_ | refine yi rfl ?_ | (refine yk rfl (fun hc => ?_) (fun hc => ?_) <;> (try simp only [hsx] at hc) <;> (try first | omega | contradiction | (simp [qa] at hc; done))) | refine yp ?_ | refine yc ?_ | refine yt mixed (by kernel_rfl) ?_))
  all_goals first
    | (exfalso; omega)
    | exact RQ.fin rfl rfl rfl
theorem qj1 (f : List Node) (h off b1 i : Int) (n : Node) (b : Bool) (l : List Int) (q1 q2 q3 q4 q5 : PS) (hl : f.length ≤ 1000000000) (hp : n.parent ≠ 0) (h0 : 0 ≤ off) (ho : off ≤ n.data.length) (hdl : n.data.length ≤ 1000000000) (hd : n.data.drop off.toNat = l) (hi0 : -1 ≤ i) (hi1 : i ≤ 1000000000)
    (c1 : PureC Tryz.prog 52 [fav f, iav h] (.tup [n.av, bav b]))
    (cb : PureC Tryz.prog 75 [fav q1.F, iav h, iav 1] (iav b1)) (cp : PureC Tryz.prog 90 [fav q1.F, iav h] (iav i))
    (D1 : PureC Tryz.prog 89 [actA (pen0 f), (mkCh ((f.map Node.iv).length + 1) { n0 with kind := 3, doc := n.doc, data := l }).av] (actA q1))
    (D2 : PureC Tryz.prog 89 [actA q1, (inCh ((f.map Node.iv).length + 1) n.parent (i + 1)).av] (actA q2))
    (D3 : PureC Tryz.prog 89 [actA q2, (treeCh n.parent ((f.map Node.iv).length + 1) h b1).av] (actA q3))
    (D4 : PureC Tryz.prog 89 [actA q3, (splitCh h ((f.map Node.iv).length + 1) off).av] (actA q4))
    (D5 : PureC Tryz.prog 64 [actA q4, iav h, u32 off, u32 4294967295, .imm (.sl [])] (actA q5)) : PureC Tryz.prog 53 [actA (pen0 f), iav h, iav off] (.tup [actA q5, iav ((f.map Node.iv).length + 1)]) := by
  have hm : ((pen0 f).F.map Node.iv).length = f.length := List.length_map _
  have hml : (n.data.map u16).length = n.data.length := List.length_map _
  refine yq tabs Tryz.func53 74 [.cell 6 87, .tmp 7] rfl rfl rfl rfl rfl ?_; intro w0 X
  (repeat' (first | ((with_reducible show AL _ _ _ _ _); first | refine AL.give 3 (h1 := [⟨87, 3, [rowA q2]⟩, ⟨87, 3, [ti87.zero]⟩, ⟨44, 16, [rowS n]⟩]) (env1 := [(53, actA q2), (60, rawTr n.parent ((f.map Node.iv).length + 1) h b1), (1, iav h), (2, iav off), (3, .ptr 0 1 0 0), (6, .ptr 1 1 0 0), (8, .ptr 2 1 0 0), (10, iav ((f.map Node.iv).length + 1))]) ([((f.map Node.iv).length : Int) + 1].map i64) rfl rfl ⟨⟨_, rfl, rfl⟩, ⟨_, rfl, rfl⟩, ⟨_, rfl, rfl⟩, ⟨_, rfl, rfl⟩, ⟨_, rfl, rfl⟩, ⟨_, rfl, rfl⟩, ⟨_, rfl, rfl⟩, ⟨_, rfl, rfl⟩, trivial⟩ rfl rfl (by simp only [qax]; exact ⟨rfl, rfl, qa0 n _⟩) (Nat.zero_le _) ?_ | refine AL.op rfl (OpOK.toU32 tabs rfl rfl rfl rfl rfl rfl (by omega) (by omega)) ?_ | (refine yg tabs rfl ?_; try dsimp only [len, List.nil_append, List.cons_append]) | refine AL.op rfl (ye rfl rfl rfl rfl c1 rfl) ?_ | (refine AL.op rfl (yf rfl rfl rfl rfl rfl (by omega) (by omega)) ?_) | refine AL.op rfl (ye rfl rfl rfl rfl cb rfl) ?_ | refine AL.op rfl (OpOK.callcv rfl rfl rfl rfl rfl D3 rfl) ?_ | refine AL.op rfl (OpOK.callcv rfl rfl rfl rfl rfl D4 rfl) ?_ | refine AL.op rfl (OpOK.callcv rfl rfl rfl rfl rfl D5 rfl) ?_ | refine yo ?_ | (refine AL.op rfl (yf rfl rfl rfl rfl rfl (by omega) (by omega)) ?_)) | ((with_reducible show DQ _ _ _ _ _ _); first | refine DQ.stepc (LS.drop_map (i := ti36) (ie := ti55) (e := 55) (f := u16) (xs := n.data) (ys := l) (h := off) tabs rfl rfl rfl rfl rfl rfl rfl rfl (fun _ => rfl) (by omega) (by omega) hd) rfl rfl rfl rfl rfl ?_ | refine DQ.stepc (LS.callcv rfl rfl rfl rfl rfl rfl D1 rfl) rfl rfl rfl rfl rfl ?_ | refine DQ.stepc (LS.store (i := ti87) (v := actA q1) (ty := 87) (sz := 3) (rows := [avCells (actA (pen0 f))]) (r := avCells (actA (pen0 f))) tabs rfl rfl rfl rfl rfl rfl rfl rfl rfl rfl (Nat.le_of_ble_eq_true rfl) rfl) rfl rfl rfl rfl rfl ?_ | refine DQ.stepc (yah rfl rfl rfl rfl rfl cp rfl) rfl rfl rfl rfl rfl ?_ | refine DQ.stepc (yac rfl rfl rfl rfl rfl rfl (by omega) (by omega)) rfl rfl rfl rfl rfl ?_ | refine DQ.stepc (LS.callcv rfl rfl rfl rfl rfl rfl D2 rfl) rfl rfl rfl rfl rfl ?_ | refine DQ.stepc (LS.store (i := ti87) (v := actA q2) (ty := 87) (sz := 3) (rows := [avCells (actA (q1))]) (r := avCells (actA (q1))) tabs rfl rfl rfl rfl rfl rfl rfl rfl rfl rfl (Nat.le_of_ble_eq_true rfl) rfl) rfl rfl rfl rfl rfl ?_ | refine DQ.stepc (LS.val tabs rfl rfl rfl) rfl rfl rfl rfl rfl ?_ | refine DQ.stepc (yy rfl rfl) rfl rfl rfl rfl rfl ?_ | refine DQ.nilM (by kernel_rfl) ?_ | refine DQ.stepc (yac rfl rfl rfl rfl rfl rfl (by omega) (by omega)) rfl rfl rfl rfl rfl ?_) | (exfalso; omega) | refine ym ?_ | refine ya ?_ | refine yb ?_ | refine yh ?_ | refine yj rfl ?_ | refine yi rfl ?_ | (refine yk rfl (fun hc => ?_) (fun hc => ?_) <;> (try simp only [hsx] at hc) <;> (try first | omega | contradiction | (simp [qa] at hc; done))) | refine yp ?_ | refine yc ?_ | refine yt mixed (by kernel_rfl) ?_))
  all_goals first
    | (exfalso; omega)
    | exact RQ.fin rfl rfl rfl
theorem qgi {f : List Node} {h off : Int} (hf : Fit f) (hr : rightP f) (hh : inR f h) (ht : textB (nodeAt f h).kind) (h0 : 0 ≤ off) (ho : off ≤ (nodeAt f h).data.length) : PureC Tryz.prog 53 [actA (pen0 f), iav h, iav off] (.tup [actA (splQ f h off), iav ((f.map Node.iv).length + 1)]) := by
  have hm : (f.map Node.iv).length = f.length := List.length_map _
  have hdl := (hf.at h).data
  have D1 := D1_c hf hr hh ht h0 ho
  have D5 := D5_c hf hr hh ht h0 ho
  have hre := (qgd f h off h0 hdl ho).symm
  have c1 := qaf f h hf.len
  unfold restN at D1
  rw [← hm] at D1
  by_cases hp : (nodeAt f h).parent = 0
  · rw [qjz hf hr hh ht h0 ho hp] at D5
    exact qj0 f h off _ _ _ _ _ hf.len hp h0 ho hdl hre c1 D1 D5
  · obtain ⟨b, i, q2, q3, cb, cp, ⟨i0, i1⟩, D2, D3, D4⟩ := qoj hf hr hh ht h0 ho hp
    rw [← hm] at D2 D3 D4
    exact qj1 f h off b i _ _ _ _ q2 q3 _ _ hf.len hp h0 ho hdl hre i0 i1 c1 cb cp D1 D2 D3 D4 D5
theorem qfo (f : List Node) (h off e k w : Int) (t b : Bool) (n : Node) (h0 : 0 ≤ off) (h1 : off < 4294967296) (hdl : n.data.length ≤ 1000000000)
    (c1 : PureC Tryz.prog 49 [fav f, iav h] (iav e)) (c2 : PureC Tryz.prog 51 [fav f, iav h] (kav k)) (c3 : PureC Tryz.prog 50 [kav k] (bav t)) (c4 : PureC Tryz.prog 52 [fav f, iav h] (.tup [n.av, bav b]))
    (hw : w = if e ≠ 0 then e else if t = false then 23 else 14) (hc : e = 0 → t = true → (n.data.length : Int) < off) : PureC Tryz.prog 13 [fav f, iav h, u32 off] (.tup [fav [], iav 0, .imm (.sl []), iav w]) := by
  have hml : (n.data.map u16).length = n.data.length := List.length_map _
  by_cases he : e = 0
  · subst he
    cases t with
    | false =>
      obtain rfl : w = 23 := by simpa using hw
      clear hw hc
      refine yq tabs Tryz.func13 73 [.cell 6 24, .tmp 7, .tmp 8, .tmp 9] rfl rfl rfl rfl rfl ?_; intro w0 X
      (repeat' (first | ((with_reducible show AL _ _ _ _ _); first | refine AL.op rfl (OpOK.toI64 tabs rfl rfl rfl rfl rfl rfl (by omega) (by omega)) ?_ | (refine yg tabs rfl ?_; try dsimp only [len, List.nil_append, List.cons_append]) | refine AL.op rfl (ye rfl rfl rfl rfl c1 rfl) ?_ | refine AL.op rfl (ye rfl rfl rfl rfl c2 rfl) ?_ | refine AL.op rfl (ye rfl rfl rfl rfl c3 rfl) ?_ | refine AL.op rfl (ye rfl rfl rfl rfl c4 rfl) ?_ | refine yo ?_ | (refine yn rfl rfl rfl (fun hc => ?_) (fun hc => ?_) <;> (fail_if_success (exact absurd hc (by decide))) <;> (try simp only [hsx] at hc) <;> (try first | omega | contradiction | (simp [qa] at hc; done)))) | (exfalso; omega) | refine ym ?_ | refine ya ?_ | refine yb ?_ | refine yh ?_ | refine yj rfl ?_ | refine yi rfl ?_ | (refine yk rfl (fun hc => ?_) (fun hc => ?_) <;> (try simp only [hsx] at hc) <;> (try first | omega | contradiction | (simp [qa] at hc; done))) | refine yp ?_ | refine yc ?_))
      all_goals first
        | (exfalso; omega)
        | exact RQ.fin rfl rfl rfl
    | true =>
      obtain rfl : w = 14 := by simpa using hw
      have hc := hc rfl rfl
      clear hw
      refine yq tabs Tryz.func13 73 [.cell 6 24, .tmp 7, .tmp 8, .tmp 9] rfl rfl rfl rfl rfl ?_; intro w0 X
      (repeat' (first | ((with_reducible show AL _ _ _ _ _); first | refine AL.op rfl (OpOK.toI64 tabs rfl rfl rfl rfl rfl rfl (by omega) (by omega)) ?_ | (refine yg tabs rfl ?_; try dsimp only [len, List.nil_append, List.cons_append]) | refine AL.op rfl (ye rfl rfl rfl rfl c1 rfl) ?_ | refine AL.op rfl (ye rfl rfl rfl rfl c2 rfl) ?_ | refine AL.op rfl (ye rfl rfl rfl rfl c3 rfl) ?_ | refine AL.op rfl (ye rfl rfl rfl rfl c4 rfl) ?_ | refine yo ?_ | (refine yn rfl rfl rfl (fun hc => ?_) (fun hc => ?_) <;> (fail_if_success (exact absurd hc (by decide))) <;> (try simp only [hsx] at hc) <;> (try first | omega | contradiction | (simp [qa] at hc; done)))) | (exfalso; omega) | refine ym ?_ | refine ya ?_ | refine yb ?_ | refine yh ?_ | refine yj rfl ?_ | refine yi rfl ?_ | (refine yk rfl (fun hc => ?_) (fun hc => ?_) <;> (try simp only [hsx] at hc) <;> (try first | omega | contradiction | (simp [qa] at hc; done))) | refine yp ?_ | refine yc ?_))
      all_goals first
        | (exfalso; omega)
        | exact RQ.fin rfl rfl rfl
  · rw [if_pos he] at hw
    subst hw
    clear hc
    refine yq tabs Tryz.func13 73 [.cell 6 24, .tmp 7, .tmp 8, .tmp 9] rfl rfl rfl rfl rfl ?_; intro w0 X
    (repeat' (first | ((with_reducible show AL _ _ _ _ _); first | refine AL.op rfl (OpOK.toI64 tabs rfl rfl rfl rfl rfl rfl (by omega) (by omega)) ?_ | (refine yg tabs rfl ?_; try dsimp only [len, List.nil_append, List.cons_append]) | refine AL.op rfl (ye rfl rfl rfl rfl c1 rfl) ?_ | refine AL.op rfl (ye rfl rfl rfl rfl c2 rfl) ?_ | refine AL.op rfl (ye rfl rfl rfl rfl c3 rfl) ?_ | refine AL.op rfl (ye rfl rfl rfl rfl c4 rfl) ?_ | refine yo ?_ | (refine yn rfl rfl rfl (fun hc => ?_) (fun hc => ?_) <;> (fail_if_success (exact absurd hc (by decide))) <;> (try simp only [hsx] at hc) <;> (try first | omega | contradiction | (simp [qa] at hc; done)))) | (exfalso; omega) | refine ym ?_ | refine ya ?_ | refine yb ?_ | refine yh ?_ | refine yj rfl ?_ | refine yi rfl ?_ | (refine yk rfl (fun hc => ?_) (fun hc => ?_) <;> (try simp only [hsx] at hc) <;> (try first | omega | contradiction | (simp [qa] at hc; done))) | refine yp ?_ | refine yc ?_))
    all_goals first
      | (exfalso; omega)
      | exact RQ.fin rfl rfl rfl
theorem qfp (f F : List Node) (L : List Change) (h off k w m : Int) (b : Bool) (n : Node) (q : PS) (h0 : 0 ≤ off) (h1 : off < 4294967296) (ho : off ≤ n.data.length) (hdl : n.data.length ≤ 1000000000)
    (c1 : PureC Tryz.prog 49 [fav f, iav h] (iav 0)) (c2 : PureC Tryz.prog 51 [fav f, iav h] (kav k)) (c3 : PureC Tryz.prog 50 [kav k] (bav true)) (c4 : PureC Tryz.prog 52 [fav f, iav h] (.tup [n.av, bav b]))
    (c5 : PureC Tryz.prog 54 [fav f] (actA (pen0 f))) (c6 : PureC Tryz.prog 53 [actA (pen0 f), iav h, iav off] (.tup [actA q, iav m])) (c7 : PureC Tryz.prog 55 [actA q] (.tup [fav F, .imm (.sl (L.map Change.iv)), iav w])) : PureC Tryz.prog 13 [fav f, iav h, u32 off] (.tup [fav F, iav (if w = 0 then m else 0), .imm (.sl (L.map Change.iv)), iav w]) := by
  have hml : (n.data.map u16).length = n.data.length := List.length_map _
  by_cases hw : w = 0
  · subst hw
    rw [if_pos rfl]
    refine yq tabs Tryz.func13 73 [.cell 6 24, .tmp 7, .tmp 8, .tmp 9] rfl rfl rfl rfl rfl ?_; intro w0 X
    (repeat' (first | ((with_reducible show AL _ _ _ _ _); first | refine AL.op rfl (OpOK.toI64 tabs rfl rfl rfl rfl rfl rfl (by omega) (by omega)) ?_ | (refine yg tabs rfl ?_; try dsimp only [len, List.nil_append, List.cons_append]) | refine AL.op rfl (ye rfl rfl rfl rfl c1 rfl) ?_ | refine AL.op rfl (ye rfl rfl rfl rfl c2 rfl) ?_ | refine AL.op rfl (ye rfl rfl rfl rfl c3 rfl) ?_ | refine AL.op rfl (ye rfl rfl rfl rfl c4 rfl) ?_ | refine AL.op rfl (ye rfl rfl rfl rfl c5 rfl) ?_ | refine AL.op rfl (ye rfl rfl rfl rfl c6 rfl) ?_ | refine AL.op rfl (ye rfl rfl rfl rfl c7 rfl) ?_ | refine yo ?_ | (refine yn rfl rfl rfl (fun hc => ?_) (fun hc => ?_) <;> (fail_if_success (exact absurd hc (by decide))) <;> (try simp only [hsx] at hc) <;> (try first | omega | contradiction | (simp [qa] at hc; done)))) | (exfalso; omega) | refine ym ?_ | refine ya ?_ | refine yb ?_ | refine yh ?_ | refine yj rfl ?_ | refine yi rfl ?_ | (refine yk rfl (fun hc => ?_) (fun hc => ?_) <;> (try simp only [hsx] at hc) <;> (try first | omega | contradiction | (simp [qa] at hc; done))) | refine yp ?_ | refine yc ?_))
    all_goals first
      | (exfalso; omega)
      | exact RQ.fin rfl rfl rfl
  · rw [if_neg hw]
    refine yq tabs Tryz.func13 73 [.cell 6 24, .tmp 7, .tmp 8, .tmp 9] rfl rfl rfl rfl rfl ?_; intro w0 X
    (repeat' (first | ((with_reducible show AL _ _ _ _ _); first | refine AL.op rfl (OpOK.toI64 tabs rfl rfl rfl rfl rfl rfl (by omega) (by omega)) ?_ | (refine yg tabs rfl ?_; try dsimp only [len, List.nil_append, List.cons_append]) | refine AL.op rfl (ye rfl rfl rfl rfl c1 rfl) ?_ | refine AL.op rfl (ye rfl rfl rfl rfl c2 rfl) ?_ | refine AL.op rfl (ye rfl rfl rfl rfl c3 rfl) ?_ | refine AL.op rfl (ye rfl rfl rfl rfl c4 rfl) ?_ | refine AL.op rfl (ye rfl rfl rfl rfl c5 rfl) ?_ | refine AL.op rfl (ye rfl rfl rfl rfl c6 rfl) ?_ | refine AL.op rfl (ye rfl rfl rfl rfl c7 rfl) ?_ | refine yo ?_ | (refine yn rfl rfl rfl (fun hc => ?_) (fun hc => ?_) <;> (fail_if_success (exact absurd hc (by decide))) <;> (try simp only [hsx] at hc) <;> (try first | omega | contradiction | (simp [qa] at hc; done)))) | (exfalso; omega) | refine ym ?_ | refine ya ?_ | refine yb ?_ | refine yh ?_ | refine yj rfl ?_ | refine yi rfl ?_ | (refine yk rfl (fun hc => ?_) (fun hc => ?_) <;> (try simp only [hsx] at hc) <;> (try first | omega | contradiction | (simp [qa] at hc; done))) | refine yp ?_ | refine yc ?_))
    all_goals first
      | (exfalso; omega)
      | exact RQ.fin rfl rfl rfl
theorem qll (f : List Node) (h off : Int) (hf : Fit f) (h0 : 0 ≤ off) (h1 : off < 4294967296) : PureC Tryz.prog 13 [fav f, iav h, u32 off] (splitA f h off) := by
  have hm : (f.map Node.iv).length = f.length := List.length_map _
  have c1 := qk5 f h hf
  have c2 := qk4 f h hf.len
  have c3 := qi7 (nodeAt f h).kind
  have c4 := qaf f h hf.len
  have hdl := (hf.at h).data
  unfold splitA
  by_cases he : cfP f h true = 0
  · rw [if_neg (by omega)]
    obtain ⟨hr, hh, ht, _⟩ := qc6 he
    have ht := ht rfl
    rw [show dec (textB (nodeAt f h).kind) = true by rw [qc]; exact ht] at c3
    have he0 : faultR f [h] = 0 := by
      unfold cfP at he
      apply Classical.byContradiction
      intro hx
      rw [if_pos hx] at he
      exact hx he
    rw [he0] at c1
    by_cases ho : off ≤ (nodeAt f h).data.length
    · rw [if_neg (by omega)]
      have c5 := qlk f hf
      have c6 := qgi hf hr hh ht h0 ho
      have c7 := qn7 (splQ f h off)
      unfold endA at c7
      by_cases hw : (splQ f h off).why = 0
      · rw [if_neg (by omega)] at c7 ⊢
        have := qfp f _ _ h off _ 0 _ _ _ _ h0 h1 ho hdl c1 c2 c3 c4 c5 c6 c7
        rw [if_pos rfl, hm] at this
        exact this
      · rw [if_pos hw] at c7 ⊢
        have := qfp f _ [] h off _ _ _ _ _ _ h0 h1 ho hdl c1 c2 c3 c4 c5 c6 c7
        rw [if_neg hw] at this
        exact this
    · rw [if_pos (by omega)]
      exact qfo f h off 0 _ 14 true _ _ h0 h1 hdl c1 c2 c3 c4 (by simp) (fun _ _ => by omega)
  · rw [if_pos he]
    have hd : dec (dataB (nodeAt f h).kind) = false → dec (textB (nodeAt f h).kind) = false := by
      intro hx
      rw [qh] at hx ⊢
      exact fun ht => hx (.inl ht)
    refine qfo f h off _ _ _ (dec (textB (nodeAt f h).kind)) _ _ h0 h1 hdl c1 c2 c3 c4 ?_ ?_
    · unfold cfP at he ⊢
      by_cases hx : faultR f [h] = 0
      · have hn : ¬ (faultR f [h] ≠ 0) := fun h => h hx
        rw [if_neg hn] at he
        rw [if_neg hn, if_neg hn]
        by_cases ht : dec (textB (nodeAt f h).kind) = false
        · rw [if_pos (.inr ⟨rfl, ht⟩), if_pos ht]
        · rw [if_neg (fun hz => ht (hz.elim hd (·.2)))] at he
          exact absurd rfl he
      · rw [if_pos hx, if_pos hx]
    · intro hx ht
      exfalso
      apply he
      unfold cfP
      rw [if_neg (by omega), if_neg]
      rintro (hz | hz)
      · rw [hd hz] at ht; cases ht
      · rw [hz.2] at ht; cases ht
set_option maxHeartbeats 4000000
set_option linter.unusedVariables false
set_option linter.unusedSimpArgs false
set_option maxRecDepth 100000
set_option maxHeartbeats 4000000
open Go.RowKit
set_option linter.unusedVariables false
set_option linter.unusedSimpArgs false
set_option maxRecDepth 100000
set_option maxHeartbeats 4000000
theorem qn8 (g : List Node) (L : List Change) (w : Int) (hg : Fit g) (hL : ∀ c ∈ L, FitC c) (hl : L.length ≤ 1000000000) : PureC Tryz.prog 15 [fav g, .imm (.sl (L.map Change.iv)), iav w, fav g, .imm (.sl (L.map Change.iv)), iav w] (bav true) := by
  have c1 := qig g g hg
  rw [show dec (g = g) = true by rw [qc]] at c1
  have c2 := qdv L L hL hl
  rw [show dec (L = L) = true by rw [qc]] at c2
  refine yq tabs Tryz.func15 26 [.tmp 12] rfl rfl rfl rfl rfl ?_; intro w0 X
  (repeat' (first | ((with_reducible show AL _ _ _ _ _); first | (refine yg tabs rfl ?_; try dsimp only [len, List.nil_append, List.cons_append]) | refine AL.op rfl (ye rfl rfl rfl rfl c1 rfl) ?_ | refine AL.op rfl (ye rfl rfl rfl rfl c2 rfl) ?_ | refine yo ?_ | (refine yn rfl rfl rfl (fun hc => ?_) (fun hc => ?_) <;> (fail_if_success (exact absurd hc (by decide))) <;> (try simp only [hsx] at hc) <;> (try first | omega | contradiction | (simp [qa] at hc; done)))) | (exfalso; omega) | refine ym ?_ | refine ya ?_ | refine yb ?_ | refine yh ?_ | refine yp ?_ | refine yc ?_))
  all_goals first
    | (exfalso; omega)
    | exact RQ.fin rfl rfl rfl
theorem qj2 (f : List Node) (h off : Int) (hf : Fit f) (h0 : 0 ≤ off) : ∃ (g : List Node) (L : List Change) (w m : Int), splitA f h off = .tup [fav g, iav m, .imm (.sl (L.map Change.iv)), iav w] ∧ Fit g ∧ (∀ c ∈ L, FitC c) ∧ L.length ≤ 1000000000 := by
  unfold splitA
  by_cases he : cfP f h true = 0
  · rw [if_neg (by omega)]
    obtain ⟨hr, hh, ht, _⟩ := qc6 he
    have ht := ht rfl
    by_cases ho : off ≤ (nodeAt f h).data.length
    · rw [if_neg (by omega)]
      by_cases hw : (splQ f h off).why = 0
      · rw [if_neg (by omega)]
        have hi := invQ hf hr hh ht h0 ho
        have lq := lenQ hf hr hh ht h0 ho
        exact ⟨_, _, _, _, rfl, hi.fit, hi.chs, by omega⟩
      · rw [if_pos hw]
        exact ⟨[], [], _, _, rfl, qgg, by simp, by simp⟩
    · rw [if_pos (by omega)]
      exact ⟨[], [], _, _, rfl, qgg, by simp, by simp⟩
  · rw [if_pos he]
    exact ⟨[], [], _, _, rfl, qgg, by simp, by simp⟩
theorem splits_all (f : List Node) (h off : Int) (hf : Fit f) (h0 : 0 ≤ off) (h1 : off < 4294967296) : PureC Tryz.prog 3 [fav f, iav h, u32 off] (bav true) := by
  have c0 := qiq f hf
  have c1 := qhc f h off hf h0 h1
  have c2 := qll f h off hf h0 h1
  obtain ⟨g, L, w, m, e, hg, hL, hl⟩ := qj2 f h off hf h0
  rw [e] at c1 c2
  have c3 := qn8 g L w hg hL hl
  have c4 := qig f f hf
  rw [show dec (f = f) = true by rw [qc]] at c4
  refine yq tabs Tryz.func3 56 [.tmp 6] rfl rfl rfl rfl rfl ?_; intro w0 X
  (repeat' (first | ((with_reducible show AL _ _ _ _ _); first | (refine yg tabs rfl ?_; try dsimp only [len, List.nil_append, List.cons_append]) | refine AL.op rfl (ye rfl rfl rfl rfl c0 rfl) ?_ | refine AL.op rfl (ye rfl rfl rfl rfl c1 rfl) ?_ | refine AL.op rfl (ye rfl rfl rfl rfl c2 rfl) ?_ | refine AL.op rfl (ye rfl rfl rfl rfl qnf rfl) ?_ | refine AL.op rfl (ye rfl rfl rfl rfl c3 rfl) ?_ | refine AL.op rfl (ye rfl rfl rfl rfl c4 rfl) ?_ | refine yo ?_ | (refine yn rfl rfl rfl (fun hc => ?_) (fun hc => ?_) <;> (fail_if_success (exact absurd hc (by decide))) <;> (try simp only [hsx] at hc) <;> (try first | omega | contradiction | (simp [qa] at hc; done)))) | (exfalso; omega) | refine ym ?_ | refine ya ?_ | refine yb ?_ | refine yh ?_ | refine yp ?_ | refine yc ?_))
  all_goals first
    | (exfalso; omega)
    | exact RQ.fin rfl rfl rfl
variable {P : Program} {α β : Type}
def noX : Nat → Prop := fun _ => False
theorem qj3 {H : Type} {d : DataW H} {l : List (DataW H)} (h : d ∈ l) : Rows.uptoBulk d ≤ Rows.uptoBulkAll l := by
  induction l with
  | nil => cases h
  | cons x r ih =>
    simp only [Rows.uptoBulkAll]
    cases List.mem_cons.1 h with
    | inl e => subst e; omega
    | inr e => have := ih e; omega
theorem qlm {H : Type} (d : DataW H) : 1 ≤ Rows.uptoBulk d := by
  cases d with
  | lit l => cases l <;> simp [Rows.uptoBulk]
  | nil => simp [Rows.uptoBulk]
  | ptr d => simp [Rows.uptoBulk]
  | slice elems spare => simp [Rows.uptoBulk]
  | agg parts => simp [Rows.uptoBulk]
  | iface t d => simp [Rows.uptoBulk]
  | map entries => simp [Rows.uptoBulk]
  | held h => simp [Rows.uptoBulk]
theorem qgj {H : Type} (l : List (DataW H)) : l.length ≤ Rows.uptoBulkAll l := by
  induction l with
  | nil => simp [Rows.uptoBulkAll]
  | cons x r ih => have := qlm x; simp only [Rows.uptoBulkAll, List.length_cons]; omega
structure Opens (P : Program) (t : TypeId) (rd : α → List IV) (sz : Nat) (Fit : α → Nat → Prop) : Prop where
  len : ∀ a, (rd a).length = sz
  get : ∀ {H : Type} {enc : TypeId × Value → H} {w : World} {spare : Nat → Bool} {held : Bool} {fuel : Nat} {cs : List Value} {x : DataW H × List MemPlace},
    DataW.trod enc P w 0 spare held fuel t cs = some x → ∃ a : α, All2 (RepI w noX) (rd a) cs ∧ Fit a (Rows.uptoBulk x.1)
  mono : ∀ {a : α} {b b' : Nat}, b ≤ b' → Fit a b → Fit a b'
theorem Opens.int {t : TypeId} {k : IntKind} (ht : P.underlying t = some (.int k)) : Opens P t (fun n : Int => [.int k n]) 1 (fun _ _ => True) where
  len := fun _ => rfl
  mono := fun _ h => h
  get := by
    intro H enc w spare held fuel cs x h
    obtain ⟨n, rfl, rfl, hw⟩ := DataW.trod_int ht h
    exact ⟨n, .cons (.int _ _) .nil, trivial⟩
theorem Opens.bool {t : TypeId} (ht : P.underlying t = some .bool) : Opens P t (fun b : Bool => [.bool b]) 1 (fun _ _ => True) where
  len := fun _ => rfl
  mono := fun _ h => h
  get := by
    intro H enc w spare held fuel cs x h
    obtain ⟨n, rfl, rfl⟩ := DataW.trod_bool ht h
    exact ⟨n, .cons (.bool _) .nil, trivial⟩
theorem Opens.string {t : TypeId} (ht : P.underlying t = some .string) : Opens P t (fun s : ByteArray => [.str s]) 1 (fun _ _ => True) where
  len := fun _ => rfl
  mono := fun _ h => h
  get := by
    intro H enc w spare held fuel cs x h
    obtain ⟨n, rfl, rfl, hw⟩ := DataW.trod_string ht h
    exact ⟨n, .cons (.str _) .nil, trivial⟩
theorem qfq {Q : Nat → α → Prop} : ∀ n : Nat, (∀ i, i < n → ∃ p, Q i p) → ∃ xs : List α, xs.length = n ∧ ∀ i p, xs[i]? = some p → Q i p
  | 0, _ => ⟨[], rfl, fun i p h => by simp at h⟩
  | n + 1, h => by
    obtain ⟨xs, hl, hq⟩ := qfq n (fun i hi => h i (by omega))
    obtain ⟨p, hp⟩ := h n (by omega)
    refine ⟨xs ++ [p], by simp [hl], fun i q hi => ?_⟩
    by_cases e : i < xs.length
    · rw [List.getElem?_append_left e] at hi
      exact hq i q hi
    · have hlt := (List.getElem?_eq_some_iff.1 hi).1
      simp [hl] at hlt
      obtain rfl : i = n := by omega
      rw [List.getElem?_append_right (by omega), hl, Nat.sub_self] at hi
      simp at hi
      subst hi
      exact hp
theorem qed {R : IV → Value → Prop} {rd : α → List IV} : ∀ {l : List (α × List Value)}, (∀ p ∈ l, All2 R (rd p.1) p.2) → All2 R ((l.map Prod.fst).map rd).flatten (l.map Prod.snd).flatten
  | [], _ => .nil
  | p :: r, h => by
    simp only [List.map_cons, List.flatten_cons]
    exact (h p (by simp)).append (qed fun q hq => h q (by simp [hq]))
theorem qln (a : Addr) (i j : Nat) : (a.add i).add j = a.add (i + j) := by
  unfold Addr.add
  by_cases hi : i = 0
  · subst hi; simp
  · by_cases hj : j = 0
    · subst hj; simp
    · simp [hi, hj, Nat.add_assoc]
theorem Opens.slice {t e : TypeId} {rd : α → List IV} {sz : Nat} {Fit : α → Nat → Prop} (ht : P.underlying t = some (.slice e)) (hc : P.cellsOf e = sz) (hsz : 0 < sz) (he : Opens P e rd sz Fit) :
    Opens P t (fun xs : List α => [.sl (xs.map rd)]) 1 (fun xs b => xs.length < b ∧ ∀ x ∈ xs, Fit x b) where
  len := fun _ => rfl
  mono := fun h h2 => ⟨Nat.lt_of_lt_of_le h2.1 h, fun x hx => he.mono h (h2.2 x hx)⟩
  get := by
    intro H enc w spare held fuel cs x h
    rcases DataW.trod_slice ht h with ⟨rfl, rfl⟩ | ⟨a, len, cap, elems, rest, n, _, rfl, rfl, hb, hl, hm, hlen, hel, _, _⟩
    · exact ⟨[], .cons (.nil _ _) .nil, by simp [Rows.uptoBulk]⟩
    · have each : ∀ i : Nat, i < len → ∃ p : α × List Value, All2 (RepI w noX) (rd p.1) p.2 ∧ p.2.length = sz ∧ (∀ j u, p.2[j]? = some u → w.cell? (a.add (i * sz + j)) = some u) ∧ ∃ y : DataW H × List MemPlace, elems[i]? = some y ∧ Fit p.1 (Rows.uptoBulk y.1) := by
        intro i hi
        have h1 := hel i hi
        obtain ⟨y, hy⟩ : ∃ y, elems[i]? = some y := ⟨_, List.getElem?_eq_getElem (by omega)⟩
        rw [hy, hc] at h1
        obtain ⟨c, hcs, htr⟩ := Option.bind_eq_some_iff.1 h1
        obtain ⟨p, hK, hF⟩ := he.get htr
        have hcl : c.length = sz := by rw [← hK.length, he.len]
        refine ⟨(p, c), hK, hcl, fun j u hj => ?_, y, hy, hF⟩
        unfold World.cells? at hcs
        rw [if_pos (Nat.zero_le _)] at hcs
        have hj2 : j < sz := by
          have := (List.getElem?_eq_some_iff.1 hj).1
          rw [← hcl]
          exact this
        have := mapM_some_get hcs j j (List.getElem?_range hj2)
        rw [← qln, this, hj]
      obtain ⟨xs, hxl, hxq⟩ := qfq len each
      have hall : ∀ p ∈ xs, ∃ i, xs[i]? = some p := fun p hp => by
        obtain ⟨j, hj, rfl⟩ := List.getElem_of_mem hp
        exact ⟨j, List.getElem?_eq_getElem hj⟩
      refine ⟨xs.map Prod.fst, .cons ?_ .nil, ?_, ?_⟩
      · by_cases h0 : xs = []
        · subst h0
          simp at hxl
          subst hxl
          exact .nil _ _
        · have hr2 : ∀ r ∈ xs.map Prod.snd, r.length = sz := by
            intro r hr
            obtain ⟨p, hp, rfl⟩ := List.mem_map.1 hr
            obtain ⟨i, hi⟩ := hall p hp
            exact (hxq i p hi).2.1
          refine .sl _ a len cap sz (xs.map Prod.snd).flatten (by simpa using h0) hsz (by simp [hxl]) hl (fun h => h) ?_ ?_ (qed fun p hp => ?_)
          · intro r hr
            obtain ⟨p, _, rfl⟩ := List.mem_map.1 hr
            exact he.len p
          · intro k u hk
            have hk2 := (List.getElem?_eq_some_iff.1 hk).1
            rw [q6 hr2] at hk2
            have hdm : k = k / sz * sz + k % sz := by rw [Nat.mul_comm]; exact (Nat.div_add_mod k sz).symm
            have hlt : k / sz < (xs.map Prod.snd).length := (Nat.div_lt_iff_lt_mul hsz).2 hk2
            obtain ⟨r, hr⟩ : ∃ r, (xs.map Prod.snd)[k / sz]? = some r := ⟨_, List.getElem?_eq_getElem hlt⟩
            have hg := qgk hr2 hr (Nat.mod_lt k hsz)
            rw [← hdm, hk] at hg
            rw [List.getElem?_map] at hr
            obtain ⟨p, hp, rfl⟩ := Option.map_eq_some_iff.1 hr
            have := (hxq _ p hp).2.2.1 _ u hg.symm
            rw [← hdm] at this
            exact this
          · obtain ⟨i, hi⟩ := hall p hp
            exact (hxq i p hi).1
      · have h1 := qgj (elems.map (·.1))
        simp [Rows.uptoBulk] at h1 ⊢
        omega
      · intro p hp
        obtain ⟨q, hq, rfl⟩ := List.mem_map.1 hp
        obtain ⟨i, hi⟩ := hall q hq
        obtain ⟨_, _, _, y, hy, hF⟩ := hxq i q hi
        refine he.mono ?_ hF
        have hm : y.1 ∈ elems.map (·.1) := List.mem_map_of_mem (List.mem_of_getElem? hy)
        have := qj3 hm
        simp only [Rows.uptoBulk]
        omega
structure OpensF (P : Program) (fs : List Field) (o : Nat) (rd : α → List IV) (sz : Nat) (Fit : α → Nat → Prop) : Prop where
  len : ∀ a, (rd a).length = sz
  get : ∀ {H : Type} {enc : TypeId × Value → H} {w : World} {spare : Nat → Bool} {held : Bool} {fuel : Nat} {cs : List Value} {xs : List (DataW H × List MemPlace)}, cs.length = o + sz →
    (fs.mapM fun f => DataW.trod enc P w 0 spare held fuel f.type ((cs.drop f.offset).take (P.cellsOf f.type))) = some xs → ∃ a : α, All2 (RepI w noX) (rd a) (cs.drop o) ∧ Fit a (Rows.uptoBulkAll (xs.map (·.1)))
  mono : ∀ {a : α} {b b' : Nat}, b ≤ b' → Fit a b → Fit a b'
theorem OpensF.one {f : Field} {o : Nat} {rd : α → List IV} {sz : Nat} {Fit : α → Nat → Prop} (h : Opens P f.type rd sz Fit) (ho : f.offset = o) (hc : P.cellsOf f.type = sz) : OpensF P [f] o rd sz Fit where
  len := h.len
  mono := h.mono
  get := by
    intro H enc w spare held fuel cs xs hl hx
    have h0 := mapM_some_get hx 0 f rfl
    have hlen := mapM_some_length hx
    obtain ⟨y, rfl⟩ : ∃ y, xs = [y] := by
      match xs, hlen with
      | [y], _ => exact ⟨y, rfl⟩
    simp at h0
    rw [ho, hc, List.take_of_length_le (by simp; omega)] at h0
    obtain ⟨a, hK, hF⟩ := h.get h0
    exact ⟨a, hK, h.mono (by simp [Rows.uptoBulkAll]) hF⟩
theorem OpensF.cons {f : Field} {fs : List Field} {o : Nat} {rd : α → List IV} {rd2 : β → List IV} {sz sz2 : Nat} {Fit : α → Nat → Prop} {Fit2 : β → Nat → Prop} (h : Opens P f.type rd sz Fit) (ho : f.offset = o) (hc : P.cellsOf f.type = sz) (h2 : OpensF P fs (o + sz) rd2 sz2 Fit2) :
    OpensF P (f :: fs) o (fun p : α × β => rd p.1 ++ rd2 p.2) (sz + sz2) (fun x b => Fit x.1 b ∧ Fit2 x.2 b) where
  len := fun p => by rw [List.length_append, h.len, h2.len]
  mono := fun hb hf => ⟨h.mono hb hf.1, h2.mono hb hf.2⟩
  get := by
    intro H enc w spare held fuel cs xs hl hx
    have hlen := mapM_some_length hx
    obtain ⟨y, ys, rfl⟩ : ∃ y ys, xs = y :: ys := by
      match xs, hlen with
      | y :: ys, _ => exact ⟨y, ys, rfl⟩
    have h0 := mapM_some_get hx 0 f rfl
    simp at h0
    rw [ho, hc] at h0
    obtain ⟨a, hK, hF⟩ := h.get h0
    have hx2 : (fs.mapM fun f => DataW.trod enc P w 0 spare held fuel f.type ((cs.drop f.offset).take (P.cellsOf f.type))) = some ys := by
      simp only [List.mapM_cons, Option.bind_eq_bind, Option.bind_eq_some_iff] at hx
      obtain ⟨y', hy', ys', hys, he⟩ := hx
      simp at he
      rw [hys, he.2]
    obtain ⟨b, hK2, hF2⟩ := h2.get (by rw [hl]; omega) hx2
    refine ⟨(a, b), ?_, h.mono (by simp [Rows.uptoBulkAll]) hF, h2.mono (by simp [Rows.uptoBulkAll]) hF2⟩
    have := hK.append hK2
    rw [← List.drop_drop, List.take_append_drop] at this
    exact this
theorem Opens.struct {t : TypeId} {fs : Array Field} {rd : α → List IV} {sz : Nat} {Fit : α → Nat → Prop} (ht : P.underlying t = some (.struct fs)) (hf : OpensF P fs.toList 0 rd sz Fit) (hc : P.cellsOf t = sz) : Opens P t rd sz Fit where
  len := hf.len
  mono := fun hb h => hf.mono hb h
  get := by
    intro H enc w spare held fuel cs x h
    cases fuel with
    | zero => simp [DataW.trod] at h
    | succ n =>
      unfold DataW.trod at h
      rw [ht] at h
      simp only at h
      split at h
      · rename_i hl
        obtain ⟨xs, hxs, rfl⟩ := Option.map_eq_some_iff.1 h
        obtain ⟨a, hK, hF⟩ := hf.get (by rw [hl, hc]; omega) hxs
        refine ⟨a, by simpa using hK, hf.mono (by simp [Rows.uptoBulk]) hF⟩
      · cases h
theorem Opens.iso {t : TypeId} {rd : α → List IV} {rd' : β → List IV} {sz : Nat} {Fit : α → Nat → Prop} {Fit' : β → Nat → Prop} (h : Opens P t rd sz Fit) (g : α → β) (hr : ∀ a, rd' (g a) = rd a) (gi : β → α) (hg : ∀ b, g (gi b) = b) (hf : ∀ a b, Fit a b → Fit' (g a) b) (hm : ∀ {a : β} {b b' : Nat}, b ≤ b' → Fit' a b → Fit' a b') : Opens P t rd' sz Fit' where
  len := fun b => by rw [← hg b, hr]; exact h.len _
  mono := hm
  get := by
    intro H enc w spare held fuel cs x hx
    obtain ⟨a, h1, h2⟩ := h.get hx
    exact ⟨g a, by rw [hr]; exact h1, hf _ _ h2⟩
end Go.Proofs.YtmhejcnaanocpaaGreat.A
namespace Go.Proofs.YtmhejcnaanocpaaGreat.A
open Go.RowKit
set_option linter.unusedVariables false
set_option linter.unusedSimpArgs false
theorem opName : Opens Tryz.prog 39 Name.iv 3 (fun _ _ => True) :=
  (Opens.struct Tryz.underlying39 (.cons (.string Tryz.underlying9) rfl (by kernel_rfl) (.cons (.string Tryz.underlying9) rfl (by kernel_rfl) (.one (.string Tryz.underlying9) rfl (by kernel_rfl)))) (by kernel_rfl)).iso
    (fun p => ⟨p.1, p.2.1, p.2.2⟩) (fun _ => rfl) (fun n => (n.sp, n.pf, n.lc)) (fun _ => rfl) (fun _ _ _ => trivial) (fun _ h => h)
theorem opAttr : Opens Tryz.prog 104 Attr.iv 4 (fun _ _ => True) :=
  (Opens.struct Tryz.underlying104 (.cons opName rfl (by kernel_rfl) (.one (.string Tryz.underlying9) rfl (by kernel_rfl))) (by kernel_rfl)).iso
    (fun p => ⟨p.1, p.2⟩) (fun _ => rfl) (fun n => (n.name, n.value)) (fun _ => rfl) (fun _ _ _ => trivial) (fun _ h => h)
theorem opNode : Opens Tryz.prog 44 Node.iv 16 (fun n b => n.data.length < b ∧ n.attrs.length < b ∧ n.kids.length < b) :=
  (Opens.struct Tryz.underlying44 (.cons (.int Tryz.underlying37) rfl (by kernel_rfl) (.cons opName rfl (by kernel_rfl) (.cons (.string Tryz.underlying9) rfl (by kernel_rfl) (.cons (.string Tryz.underlying9) rfl (by kernel_rfl)
    (.cons (.slice Tryz.underlying36 (by kernel_rfl) (by decide) (.int Tryz.underlying55)) rfl (by kernel_rfl) (.cons (.slice Tryz.underlying40 (by kernel_rfl) (by decide) opAttr) rfl (by kernel_rfl)
    (.cons (.int Tryz.underlying3) rfl (by kernel_rfl) (.cons (.slice Tryz.underlying41 (by kernel_rfl) (by decide) (.int Tryz.underlying3)) rfl (by kernel_rfl)
    (.cons (.int Tryz.underlying3) rfl (by kernel_rfl) (.cons (.int Tryz.underlying3) rfl (by kernel_rfl) (.cons (.int Tryz.underlying3) rfl (by kernel_rfl) (.cons (.int Tryz.underlying42) rfl (by kernel_rfl) (.cons (.bool Tryz.underlying4) rfl (by kernel_rfl) (.one (.bool Tryz.underlying4) rfl (by kernel_rfl))))))))))))))) (by kernel_rfl)).iso
    (fun p => ⟨p.1, p.2.1, p.2.2.1, p.2.2.2.1, p.2.2.2.2.1, p.2.2.2.2.2.1, p.2.2.2.2.2.2.1, p.2.2.2.2.2.2.2.1, p.2.2.2.2.2.2.2.2.1, p.2.2.2.2.2.2.2.2.2.1, p.2.2.2.2.2.2.2.2.2.2.1, p.2.2.2.2.2.2.2.2.2.2.2.1, p.2.2.2.2.2.2.2.2.2.2.2.2.1, p.2.2.2.2.2.2.2.2.2.2.2.2.2⟩) (fun _ => rfl)
    (fun n => (n.kind, n.name, n.pub, n.sys, n.data, n.attrs, n.parent, n.kids, n.doc, n.host, n.shadow, n.mode, n.manual, n.html)) (fun _ => rfl) (fun _ _ h => ⟨h.2.2.2.2.1.1, h.2.2.2.2.2.1.1, h.2.2.2.2.2.2.2.1.1⟩) (fun h h2 => ⟨Nat.lt_of_lt_of_le h2.1 h, Nat.lt_of_lt_of_le h2.2.1 h, Nat.lt_of_lt_of_le h2.2.2 h⟩)
theorem opForest : Opens Tryz.prog 24 (fun f : List Node => [.sl (f.map Node.iv)]) 1 (fun f b => f.length < b ∧ ∀ n ∈ f, n.data.length < b ∧ n.attrs.length < b ∧ n.kids.length < b) :=
  Opens.struct Tryz.underlying24 (.one (.slice Tryz.underlying22 (by kernel_rfl) (by decide) opNode) rfl (by kernel_rfl)) (by kernel_rfl)
theorem fit_bulk {f : List Node} {b : Nat} (hb : b ≤ 1048577) (h : f.length < b ∧ ∀ n ∈ f, n.data.length < b ∧ n.attrs.length < b ∧ n.kids.length < b) : Fit f :=
  ⟨by omega, fun n hn => by have := h.2 n hn; exact ⟨by omega, by omega, by omega⟩⟩
theorem argForest {w : World} {f : List Node} {cs : List Value} (h : All2 (RepI w noX) [.sl (f.map Node.iv)] cs) : RepA (M0 w noX) (fav f) (.agg cs.toArray) :=
  .agg _ _ (by
    cases h with
    | cons h1 h2 => cases h2; exact .cons (.imm _ _ h1) .nil)
theorem argInt {w : World} {k : IntKind} {n : Int} {v : Value} (h : All2 (RepI w noX) [.int k n] [v]) : RepA (M0 w noX) (.imm (.int k n)) v := by
  cases h with
  | cons h1 h2 => exact .imm _ _ h1
theorem Opens.intR {P : Program} {t : TypeId} {k : IntKind} (ht : P.underlying t = some (.int k)) : Opens P t (fun n : Int => [.int k n]) 1 (fun n _ => k.min ≤ n ∧ n ≤ k.max) where
  len := fun _ => rfl
  mono := fun _ h => h
  get := by
    intro H enc w spare held fuel cs x h
    obtain ⟨n, rfl, rfl, hw⟩ := DataW.trod_int ht h
    refine ⟨n, .cons (.int _ _) .nil, ?_⟩
    unfold Lit.wf at hw
    rw [Bool.and_eq_true] at hw
    exact ⟨of_decide_eq_true hw.1, of_decide_eq_true hw.2⟩
theorem u32lo {n : Int} (h : IntKind.u32.min ≤ n ∧ n ≤ IntKind.u32.max) : 0 ≤ n := h.1
theorem u32hi {n : Int} (h : IntKind.u32.min ≤ n ∧ n ≤ IntKind.u32.max) : n < 4294967296 := by
  have : IntKind.u32.max = 4294967295 := by decide
  omega
end Go.Proofs.YtmhejcnaanocpaaGreat.A
namespace Go.Proofs.YtmhejcnaanocpaaGreat.chardataSplits
open Go.ChangeShapes Go.WideShapes Go.ChangeAt Go.RowKit Go.Proofs.YtmhejcnaanocpaaGreat.A
set_option linter.unusedVariables false
theorem own : ownKnob Tryz.prog.godebug = none := by kernel_rfl
theorem laidOut : laidOutB Tryz.prog = true := by kernel_rfl
set_option maxRecDepth 100000 in
theorem contract (H : Type) (enc : TypeId × Value → H) (W : World) (base : Nat) (args : Array Value) (ds gs : List (DataW H)) (before : List MemPlace)
    (hval0 : ∀ (j : Nat) t v, Tryz.f3.params[j]? = some t → args[j]? = some v → Value.okWide Tryz.prog W .any base t v)
    (hW : DataW.Whole enc Tryz.prog Tryz.f3.params.toList Rows.chardataSplitsSpec.vars false W args.toList ds gs before) (hk : Rows.uptoSmall H (ds ++ gs) = true) :
    Calls Tryz.prog 3 args W fun e W' => ∃ v, e = .returned v ∧ Rows.chardataSplitsSpec.post enc Tryz.prog Tryz.f3 false true false false W args v W' := by
  have hval : ∀ (j : Nat) t v, Tryz.f3.params[j]? = some t → args[j]? = some v → Value.okWide Tryz.prog W .any base t v := hval0
  have hW' := hW
  obtain ⟨p, q, hA0, hV, rfl, hfz, hnd⟩ := hW
  have hA : DataW.TrodAll enc Tryz.prog W 0 (fun _ => true) true Tryz.f3.params.toList args.toList ds p := hA0
  rw [Tryz.params3] at hA hval
  obtain ⟨v0, vs0, d0, ds0, p0, q0, hargs, rfl, rfl, h0, r0⟩ := trodAll_cons hA
  obtain ⟨v1, vs1, d1, ds1, p1, q1, rfl, rfl, rfl, h1, r1⟩ := trodAll_cons r0
  obtain ⟨v2, vs2, d2, ds2, p2, q2, rfl, rfl, rfl, h2, r2⟩ := trodAll_cons r1
  obtain ⟨rfl, rfl, rfl⟩ := trodAll_nil r2
  obtain rfl : args = #[v0, v1, v2] := by cases args; simp_all
  obtain ⟨rfl, rfl⟩ := trodVars_none hV
  have hb : Rows.uptoBulkAll ([d0, d1, d2] : List (DataW H)) ≤ 1048576 := by
    have h_ := of_decide_eq_true hk
    simpa only [List.append_nil] using h_
  clear hk
  have lt0 : ∀ x ∈ p0, x.block < W.heap.size := by obtain ⟨m, hm⟩ := h0; exact DataW.trod_lt m _ _ _ hm
  have lt1 : ∀ x ∈ p1, x.block < W.heap.size := by obtain ⟨m, hm⟩ := h1; exact DataW.trod_lt m _ _ _ hm
  have lt2 : ∀ x ∈ p2, x.block < W.heap.size := by obtain ⟨m, hm⟩ := h2; exact DataW.trod_lt m _ _ _ hm
  have b0 : Rows.uptoBulk d0 ≤ 1048576 := Nat.le_trans (qj3 (by simp)) hb
  have k0 := h0
  have k1 := h1
  have k2 := h2
  obtain ⟨m0, hm0⟩ := k0
  obtain ⟨x0, K0, F0⟩ := opForest.get hm0
  replace F0 := opForest.mono (Nat.le_succ_of_le b0) F0
  obtain ⟨cs0, rfl, _⟩ := okWide_struct Tryz.underlying24 (hval 0 24 v0 rfl rfl)
  obtain ⟨m1, hm1⟩ := k1
  obtain ⟨x1, K1, _⟩ := (Opens.int Tryz.underlying3).get hm1
  obtain ⟨z1, rfl, _, _, _⟩ := open_int Tryz.underlying3 (hval 1 3 v1 rfl rfl) h1
  obtain ⟨m2, hm2⟩ := k2
  obtain ⟨x2, K2, R2⟩ := (Opens.intR Tryz.underlying25).get hm2
  obtain ⟨z2, rfl, _, _, _⟩ := open_int Tryz.underlying25 (hval 2 25 v2 rfl rfl) h2
  refine ((splits_all x0 x1 x2 (fit_bulk (Nat.le_refl _) F0) (u32lo R2) (u32hi R2)).2 W noX _ (fun b h => h.elim) (.cons (argForest K0) (.cons (argInt K1) (.cons (argInt K2) .nil)))).mono fun e W' ⟨x, he, bel, hx⟩ => ?_
  subst he
  obtain rfl : x = .bool true := by
    cases hx with
    | imm _ _ h => exact h.bool_inv
  exact ⟨_, rfl, _, _, _, [], _, [], hW', trodAll_mk1 (shut_bool Tryz.underlying4 _), (trodAll_cons_mk (Below.trod laidOut (by kernel_rfl) (of_decide_eq_true (by kernel_rfl)) h0 bel lt0) (trodAll_cons_mk (Below.trod laidOut (by kernel_rfl) (of_decide_eq_true (by kernel_rfl)) h1 bel lt1) (trodAll_cons_mk (Below.trod laidOut (by kernel_rfl) (of_decide_eq_true (by kernel_rfl)) h2 bel lt2) trodAll_mk0))), rfl, bel.frame _, fun h => by cases h⟩
set_option maxRecDepth 100000 in
theorem lifted (os : Os) (started : os.Started) (H : Type) (enc : TypeId × Value → H) (F : Stop.Interp) :
    ReturnsInHanded {} Tryz.checked os 3 .any ((Rows.OpenSpec.upto Rows.chardataSplitsSpec).pre6 enc Tryz.prog Tryz.f3 Rows.chardataSplitsUptoRow.domain false) (((Rows.OpenSpec.upto Rows.chardataSplitsSpec).at F).post enc Tryz.prog Tryz.f3 false true false false) := by
  refine returnsInHanded_of_cond (C := Tryz.checked) (s := Rows.OpenSpec.upto Rows.chardataSplitsSpec) (k := Rows.uptoSmall) rfl own started (by kernel_rfl) Tryz.func3
    (OpenSpec.witness (enc := enc) (C := Tryz.checked) (s := Rows.OpenSpec.upto Rows.chardataSplitsSpec) (k := Rows.uptoSmall) rfl false ⟨#[], #[.agg #[.slice none 0 0], .int .i64 0, .int .u32 0], []⟩ 8 (by kernel_rfl) (by kernel_rfl) (by kernel_rfl)
      (x := ([.agg [.nil], .lit (.int .i64 0), .lit (.int .u32 0)], [], [])) (by kernel_rfl) rfl (by kernel_rfl)) ?_
  intro W base args ds gs before hval hW _ hk _
  exact contract H enc W base args ds gs before hval hW hk
theorem over : Rows.chardataSplitsUptoRow.holds Tryz.pinned (Rows.OpenSpec.upto Rows.chardataSplitsSpec) :=
  OpenClaim.holds_of_cond 3 Tryz.f3 rfl rfl rfl rfl rfl rfl rfl ⟨rfl, rfl, rfl, rfl, rfl⟩ rfl rfl rfl rfl rfl (by kernel_rfl) Tryz.func3 (by kernel_rfl)
    (of_decide_eq_true (by kernel_rfl)) (by unfold Func.isWrapper; first | (rw [if_pos (by decide +kernel)]; kernel_rfl) | (rw [if_neg (by decide +kernel)]; exact ⟨rfl, rfl⟩))
    (fun os started H enc _ F => lifted os started H enc F)
end Go.Proofs.YtmhejcnaanocpaaGreat.chardataSplits
namespace Go.Proofs.YtmhejcnaanocpaaGreat
theorem chardataSplits_holds : Rows.ChardataSplitsUptoSaid := chardataSplits.over
#print axioms chardataSplits_holds
end Go.Proofs.YtmhejcnaanocpaaGreat
