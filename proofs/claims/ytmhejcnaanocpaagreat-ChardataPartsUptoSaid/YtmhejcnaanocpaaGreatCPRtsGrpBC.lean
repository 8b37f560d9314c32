/- The law's own small forests; lives. -/
import Derived.Test.YtmhejcnaanocpaaGreatCPRtsGrpBB
import Derived.Test.YtmhejcnaanocpaaGreatCPRtsGrpAZ
import Derived.Test.YtmhejcnaanocpaaGreatCPRtsGrpAJ
namespace Go.Proofs.YtmhejcnaanocpaaGreat.A
set_option linter.unusedVariables false
set_option linter.unusedSimpArgs false
set_option maxRecDepth 100000
set_option maxHeartbeats 4000000
theorem dec_dec (p : Prop) [Decidable p] : dec p = decide p := dec_eq p
/-- rightP, node by node. -/
theorem right_of {f : List Node} (h : f.length ≤ 4096) (h2 : ∀ j : Nat, j < f.length → okP f (j : Int) (atI f j)) : rightP f := ⟨h, fun i h0 h1 => by
  have := h2 i.toNat (by omega)
  rw [show ((i.toNat : Nat) : Int) = i by omega] at this
  exact this⟩
theorem sz0 : (⟨#[]⟩ : ByteArray).size = 0 := rfl
theorem szp : (⟨#[112]⟩ : ByteArray).size = 1 := rfl
def p2 (ks : List Int) : Node := { pN with kids := ks }
def xN (r : List Int) (p : Int) : Node := { n0 with kind := 3, doc := 1, parent := p, data := r }
def text4 (s r : List Int) (ks : List Int) (p : Int) : List Node := [docN, p2 ks, tN s, xN r p]
theorem text_right (s : List Int) (hs : s.length ≤ 16384) : rightP (textF s) := by
  have hr := hs
  refine right_of (by simp [textF]) fun j hj => ?_
  have hj' : j < 3 := hj
  match j, hj' with
  | 0, _ =>
    refine ⟨?_, ?_, 1, ?_⟩
    · simp [madeP, m11, m27, m50, m77, m100, m200, textF, docN, pN, p2, tN, xN, atI, n0, traitsOf, namingB, namedB, shortB, attrsB, attrsGo, es, sz0, szp, dec_dec] <;> omega
    · simp [linksP, l1, l2, l3, l4, kidsB, kidsGo, famB, famGo, nodeAt, inB, cntB, textF, docN, pN, p2, tN, xN, atI, n0, dec_dec]
    · simp [inR, itN, upN, aboveOf, textF, docN, pN, p2, tN, xN, atI, n0]
  | 1, _ =>
    refine ⟨?_, ?_, 1, ?_⟩
    · simp [madeP, m11, m27, m50, m77, m100, m200, textF, docN, pN, p2, tN, xN, atI, n0, traitsOf, namingB, namedB, shortB, attrsB, attrsGo, es, sz0, szp, dec_dec] <;> omega
    · simp [linksP, l1, l2, l3, l4, kidsB, kidsGo, famB, famGo, nodeAt, inB, cntB, textF, docN, pN, p2, tN, xN, atI, n0, dec_dec]
    · simp [inR, itN, upN, aboveOf, textF, docN, pN, p2, tN, xN, atI, n0]
  | 2, _ =>
    refine ⟨?_, ?_, 2, ?_⟩
    · simp [madeP, m11, m27, m50, m77, m100, m200, textF, docN, pN, p2, tN, xN, atI, n0, traitsOf, namingB, namedB, shortB, attrsB, attrsGo, es, sz0, szp, dec_dec] <;> omega
    · simp [linksP, l1, l2, l3, l4, kidsB, kidsGo, famB, famGo, nodeAt, inB, cntB, textF, docN, pN, p2, tN, xN, atI, n0, dec_dec]
    · simp [inR, itN, upN, aboveOf, textF, docN, pN, p2, tN, xN, atI, n0]
theorem text4_right (s r : List Int) (hs : s.length ≤ 16384) (hr : r.length ≤ 16384) : rightP (text4 s r [3, 4] 2) := by
  refine right_of (by simp [text4]) fun j hj => ?_
  have hj' : j < 4 := hj
  match j, hj' with
  | 0, _ =>
    refine ⟨?_, ?_, 1, ?_⟩
    · simp [madeP, m11, m27, m50, m77, m100, m200, text4, docN, pN, p2, tN, xN, atI, n0, traitsOf, namingB, namedB, shortB, attrsB, attrsGo, es, sz0, szp, dec_dec] <;> omega
    · simp [linksP, l1, l2, l3, l4, kidsB, kidsGo, famB, famGo, nodeAt, inB, cntB, text4, docN, pN, p2, tN, xN, atI, n0, dec_dec]
    · simp [inR, itN, upN, aboveOf, text4, docN, pN, p2, tN, xN, atI, n0]
  | 1, _ =>
    refine ⟨?_, ?_, 1, ?_⟩
    · simp [madeP, m11, m27, m50, m77, m100, m200, text4, docN, pN, p2, tN, xN, atI, n0, traitsOf, namingB, namedB, shortB, attrsB, attrsGo, es, sz0, szp, dec_dec] <;> omega
    · simp [linksP, l1, l2, l3, l4, kidsB, kidsGo, famB, famGo, nodeAt, inB, cntB, text4, docN, pN, p2, tN, xN, atI, n0, dec_dec]
    · simp [inR, itN, upN, aboveOf, text4, docN, pN, p2, tN, xN, atI, n0]
  | 2, _ =>
    refine ⟨?_, ?_, 2, ?_⟩
    · simp [madeP, m11, m27, m50, m77, m100, m200, text4, docN, pN, p2, tN, xN, atI, n0, traitsOf, namingB, namedB, shortB, attrsB, attrsGo, es, sz0, szp, dec_dec] <;> omega
    · simp [linksP, l1, l2, l3, l4, kidsB, kidsGo, famB, famGo, nodeAt, inB, cntB, text4, docN, pN, p2, tN, xN, atI, n0, dec_dec]
    · simp [inR, itN, upN, aboveOf, text4, docN, pN, p2, tN, xN, atI, n0]
  | 3, _ =>
    refine ⟨?_, ?_, 2, ?_⟩
    · simp [madeP, m11, m27, m50, m77, m100, m200, text4, docN, pN, p2, tN, xN, atI, n0, traitsOf, namingB, namedB, shortB, attrsB, attrsGo, es, sz0, szp, dec_dec] <;> omega
    · simp [linksP, l1, l2, l3, l4, kidsB, kidsGo, famB, famGo, nodeAt, inB, cntB, text4, docN, pN, p2, tN, xN, atI, n0, dec_dec]
    · simp [inR, itN, upN, aboveOf, text4, docN, pN, p2, tN, xN, atI, n0]
theorem text40_right (s r : List Int) (hs : s.length ≤ 16384) (hr : r.length ≤ 16384) : rightP (text4 s r [3] 0) := by
  refine right_of (by simp [text4]) fun j hj => ?_
  have hj' : j < 4 := hj
  match j, hj' with
  | 0, _ =>
    refine ⟨?_, ?_, 1, ?_⟩
    · simp [madeP, m11, m27, m50, m77, m100, m200, text4, docN, pN, p2, tN, xN, atI, n0, traitsOf, namingB, namedB, shortB, attrsB, attrsGo, es, sz0, szp, dec_dec] <;> omega
    · simp [linksP, l1, l2, l3, l4, kidsB, kidsGo, famB, famGo, nodeAt, inB, cntB, text4, docN, pN, p2, tN, xN, atI, n0, dec_dec]
    · simp [inR, itN, upN, aboveOf, text4, docN, pN, p2, tN, xN, atI, n0]
  | 1, _ =>
    refine ⟨?_, ?_, 1, ?_⟩
    · simp [madeP, m11, m27, m50, m77, m100, m200, text4, docN, pN, p2, tN, xN, atI, n0, traitsOf, namingB, namedB, shortB, attrsB, attrsGo, es, sz0, szp, dec_dec] <;> omega
    · simp [linksP, l1, l2, l3, l4, kidsB, kidsGo, famB, famGo, nodeAt, inB, cntB, text4, docN, pN, p2, tN, xN, atI, n0, dec_dec]
    · simp [inR, itN, upN, aboveOf, text4, docN, pN, p2, tN, xN, atI, n0]
  | 2, _ =>
    refine ⟨?_, ?_, 2, ?_⟩
    · simp [madeP, m11, m27, m50, m77, m100, m200, text4, docN, pN, p2, tN, xN, atI, n0, traitsOf, namingB, namedB, shortB, attrsB, attrsGo, es, sz0, szp, dec_dec] <;> omega
    · simp [linksP, l1, l2, l3, l4, kidsB, kidsGo, famB, famGo, nodeAt, inB, cntB, text4, docN, pN, p2, tN, xN, atI, n0, dec_dec]
    · simp [inR, itN, upN, aboveOf, text4, docN, pN, p2, tN, xN, atI, n0]
  | 3, _ =>
    refine ⟨?_, ?_, 1, ?_⟩
    · simp [madeP, m11, m27, m50, m77, m100, m200, text4, docN, pN, p2, tN, xN, atI, n0, traitsOf, namingB, namedB, shortB, attrsB, attrsGo, es, sz0, szp, dec_dec] <;> omega
    · simp [linksP, l1, l2, l3, l4, kidsB, kidsGo, famB, famGo, nodeAt, inB, cntB, text4, docN, pN, p2, tN, xN, atI, n0, dec_dec]
    · simp [inR, itN, upN, aboveOf, text4, docN, pN, p2, tN, xN, atI, n0]
theorem fit_of {f : List Node} (h : f.length ≤ 1000000000) (h2 : ∀ n ∈ f, n.data.length ≤ 100000 ∧ n.attrs.length ≤ 10 ∧ n.kids.length ≤ 10) : Fit f := ⟨h, fun n hn => by
  obtain ⟨a, b, c⟩ := h2 n hn
  exact ⟨by omega, by omega, by omega⟩⟩
theorem text_fit (s : List Int) (hs : s.length ≤ 16384) : Fit (textF s) := fit_of (by simp [textF]) (by simp [textF, docN, pN, tN, n0]; omega)
theorem cf0 {f : List Node} {h : Int} {b : Bool} (hr : rightP f) (hh : inR f h) (hd : dataB (nodeAt f h).kind) (ht : b = true → textB (nodeAt f h).kind) : cfP f h b = 0 := by
  have hfa : faultR f [h] = 0 := by
    unfold faultR
    rw [if_pos (by rw [dec_true]; exact hr), if_pos (by simpa using inB_R.2 hh)]
  unfold cfP
  rw [hfa, if_neg (by omega), if_neg]
  rintro (h1 | ⟨h1, h2⟩)
  · rw [dec_false] at h1; exact h1 hd
  · rw [dec_false] at h2; exact h2 (ht h1)
def abc : List Int := [97, 98, 99]
theorem text_cf (s : List Int) (hs : s.length ≤ 16384) (b : Bool) : cfP (textF s) 3 b = 0 := cf0 (text_right s hs) (by simp [inR, textF]) (.inl (.inl rfl)) (fun _ => .inl rfl)
theorem lives_rep : ∃ L : List Change, L.length = 1 ∧ PureC Tryz.prog 19 [fav (textF abc), iav 3, u32 1, u32 9, .imm (.sl (([120] : List Int).map u16))] (.tup [fav (textF [97, 120]), .imm (.sl (L.map Change.iv)), iav 0]) := by
  have hf := text_fit abc (by decide)
  have hr := text_right abc (by decide)
  have hin : inR (textF abc) 3 := by simp [inR, textF]
  have hi := inv0 hf hr hin
  have hcf := text_cf abc (by decide) false
  have ep : replP (nodeAt (textF abc) 3).data 1 9 [120] = ([97, 120], 0) := by decide
  have ec : putC (textF abc) 3 1 9 [120] = daCh 3 1 2 [120] := by
    rw [putC_da, ep]
    rfl
  have hcan : CanCh (textF abc) (daCh 3 1 2 [120]) := .dat _ _ _ _ hin (by decide) (by omega) (by omega) (by decide) (.inl (by omega)) (by decide) (by omega)
  have hd : doneG (textF abc) (daCh 3 1 2 [120]) = (textF [97, 120], 0) := by
    rw [show doneG (textF abc) (daCh 3 1 2 [120]) = doneW (textF abc) 3 [97, 120] from rfl]
    unfold doneW
    rw [show datF (textF abc) 3 [97, 120] = textF [97, 120] from rfl, if_pos (by rw [dec_true]; exact text_right _ (by decide))]
  obtain ⟨b, hb⟩ := putS_R (p := pen0 (textF abc)) (h := 3) (off := 1) (cnt := 9) (v := [120]) hi (fun _ _ => by rw [show (pen0 (textF abc)).F = textF abc from rfl, ec]; exact hcan)
  have eq : putS (pen0 (textF abc)) 3 1 9 [120] = ⟨textF [97, 120], [daCh 3 1 2 [120]], 0⟩ := by
    unfold putS doS
    rw [show (pen0 (textF abc)).F = textF abc from rfl, ep, ec, hd, if_neg (by simp), if_neg (by simp [pen0]), if_neg (by simp)]
    rfl
  have := replace_c (textF abc) _ b 3 [120] 1 9 hf (by omega) (by omega) (by omega) (by omega) (by simp) (fun _ => hb)
  rw [eq, hcf] at this
  unfold ansP at this
  rw [if_neg (by omega), if_neg (by simp)] at this
  exact ⟨_, rfl, this⟩
theorem lives_spl : ∃ (g : List Node) (L : List Change), g.length = 4 ∧ (nodeAt g 4).data = [98, 99] ∧ L.length = 5 ∧ PureC Tryz.prog 12 [fav (textF abc), iav 3, u32 1] (.tup [fav g, iav 4, .imm (.sl (L.map Change.iv)), iav 0]) := by
  have hf := text_fit abc (by decide)
  have hr := text_right abc (by decide)
  have hin : inR (textF abc) 3 := by simp [inR, textF]
  have hcf := text_cf abc (by decide) true
  have ht : textB (nodeAt (textF abc) 3).kind := .inl rfl
  have ho : (1 : Int) ≤ (nodeAt (textF abc) 3).data.length := by decide
  have e1 : spl1 (textF abc) 3 1 = (⟨text4 abc [98, 99] [3] 0, [mkCh 4 (restN (textF abc) 3 1)], 0⟩, true) := by
    unfold spl1 doS
    rw [if_neg (by simp [pen0])]
    have hd : doneG (pen0 (textF abc)).F (mkCh ((textF abc).length + 1) (restN (textF abc) 3 1)) = (text4 abc [98, 99] [3] 0, 0) := by
      rw [show doneG (pen0 (textF abc)).F (mkCh ((textF abc).length + 1) (restN (textF abc) 3 1)) = doneM (textF abc) (restN (textF abc) 3 1) from rfl]
      unfold doneM
      rw [if_neg (by simp [textF]), show textF abc ++ [restN (textF abc) 3 1] = text4 abc [98, 99] [3] 0 from rfl, if_pos (by rw [dec_true]; exact text40_right _ _ (by decide) (by decide))]
    rw [hd, if_neg (by simp)]
    rfl
  have e2 : spl2 (textF abc) 3 1 = ⟨text4 abc [98, 99] [3, 4] 2, [mkCh 4 (restN (textF abc) 3 1), inCh 4 2 1], 0⟩ := by
    unfold spl2 doS
    rw [e1, if_neg (by simp)]
    have hd : doneG (text4 abc [98, 99] [3] 0) (inCh ((textF abc).length + 1) (nodeAt (textF abc) 3).parent (placeP (textF abc) 3 + 1)) = (text4 abc [98, 99] [3, 4] 2, 0) := by
      rw [show doneG (text4 abc [98, 99] [3] 0) (inCh ((textF abc).length + 1) (nodeAt (textF abc) 3).parent (placeP (textF abc) 3 + 1)) = doneA (text4 abc [98, 99] [3] 0) (inCh 4 2 1) from rfl]
      unfold doneA
      rw [show insFM (text4 abc [98, 99] [3] 0) (inCh 4 2 1).node (inCh 4 2 1).parent (inCh 4 2 1).index = text4 abc [98, 99] [3, 4] 2 from rfl, if_pos (by rw [dec_true]; exact text4_right _ _ (by decide) (by decide))]
    simp only
    rw [hd, if_neg (by simp)]
    rfl
  have e3 : spl3 (textF abc) 3 1 = ⟨text4 abc [98, 99] [3, 4] 2, [mkCh 4 (restN (textF abc) 3 1), inCh 4 2 1, treeCh 2 4 3 0], 0⟩ := by
    unfold spl3 doS
    rw [e2, if_neg (by simp)]
    have hd : doneG (text4 abc [98, 99] [3, 4] 2) (treeCh (nodeAt (textF abc) 3).parent ((textF abc).length + 1) 3 (besideP (textF abc) 3 1)) = (text4 abc [98, 99] [3, 4] 2, 0) := by
      rw [show besideP (textF abc) 3 1 = 0 by unfold besideP; rw [if_neg (by decide), if_pos (.inr (by decide))]]
      rw [show doneG (text4 abc [98, 99] [3, 4] 2) (treeCh (nodeAt (textF abc) 3).parent ((textF abc).length + 1) 3 0) = if dec (treeP (text4 abc [98, 99] [3, 4] 2) (treeCh 2 4 3 0)) = true then (text4 abc [98, 99] [3, 4] 2, 0) else ([], 2) from rfl]
      rw [if_pos]
      rw [dec_true]
      exact ⟨rfl, rfl, rfl, .inr rfl, .inl rfl⟩
    simp only
    rw [hd, if_neg (by simp)]
    rw [show besideP (textF abc) 3 1 = 0 by unfold besideP; rw [if_neg (by decide), if_pos (.inr (by decide))]]
    rfl
  have e4 : spl4 (textF abc) 3 1 = ⟨text4 abc [98, 99] [3, 4] 2, [mkCh 4 (restN (textF abc) 3 1), inCh 4 2 1, treeCh 2 4 3 0, splitCh 3 4 1], 0⟩ := by
    unfold spl4
    rw [if_pos ⟨by rw [e1], by decide⟩]
    unfold doS
    rw [e3, if_neg (by simp)]
    have hd : doneG (text4 abc [98, 99] [3, 4] 2) (splitCh 3 ((textF abc).length + 1) 1) = (text4 abc [98, 99] [3, 4] 2, 0) := rfl
    simp only
    rw [hd, if_neg (by simp)]
    rfl
  have eq : splQ (textF abc) 3 1 = ⟨text4 [97] [98, 99] [3, 4] 2, [mkCh 4 (restN (textF abc) 3 1), inCh 4 2 1, treeCh 2 4 3 0, splitCh 3 4 1, daCh 3 1 2 []], 0⟩ := by
    unfold splQ putS
    rw [e4]
    have ep : replP (nodeAt (text4 abc [98, 99] [3, 4] 2) 3).data 1 (restL (textF abc) 3 1).length [] = ([97], 0) := by decide
    simp only
    rw [ep, if_neg (by simp)]
    have ec : putC (text4 abc [98, 99] [3, 4] 2) 3 1 (restL (textF abc) 3 1).length [] = daCh 3 1 2 [] := by
      rw [putC_da, ep]
      rfl
    rw [ec]
    unfold doS
    rw [if_neg (by simp)]
    have hd : doneG (text4 abc [98, 99] [3, 4] 2) (daCh 3 1 2 []) = (text4 [97] [98, 99] [3, 4] 2, 0) := by
      rw [show doneG (text4 abc [98, 99] [3, 4] 2) (daCh 3 1 2 []) = doneW (text4 abc [98, 99] [3, 4] 2) 3 [97] from rfl]
      unfold doneW
      rw [show datF (text4 abc [98, 99] [3, 4] 2) 3 [97] = text4 [97] [98, 99] [3, 4] 2 from rfl, if_pos (by rw [dec_true]; exact text4_right _ _ (by decide) (by decide))]
    simp only
    rw [hd, if_neg (by simp)]
    rfl
  have := splitA_c (textF abc) 3 1 hf (by omega) (by omega)
  unfold splitA at this
  rw [hcf, if_neg (by omega), if_neg (by omega), eq, if_neg (by simp)] at this
  exact ⟨_, _, rfl, rfl, rfl, this⟩
theorem lives_who : PureC Tryz.prog 18 [fav (textF [97]), iav 3] (.tup [.imm (.sl (([97] : List Int).map u16)), iav 0]) := by
  have := whole1_c (textF [97]) 3 (text_fit _ (by decide)) (text_cf _ (by decide) true) (by decide)
  rw [show wholeP (textF [97]) 3 = [97] by
    unfold wholeP
    rw [if_neg (by decide)]
    have e : idx (nodeAt (textF [97]) (nodeAt (textF [97]) 3).parent).kids 3 = 0 := by decide
    rw [e]
    have t3 : txt (textF [97]) 3 = true := by unfold txt; rw [dec_true]; exact .inl rfl
    rw [show (nodeAt (textF [97]) (nodeAt (textF [97]) 3).parent).kids = [3] from rfl]
    simp [leftN, runGo, t3]
    rfl] at this
  exact this
end Go.Proofs.YtmhejcnaanocpaaGreat.A
namespace Go.Proofs.YtmhejcnaanocpaaGreat.A
set_option linter.unusedVariables false
set_option linter.unusedSimpArgs false
set_option maxRecDepth 100000
set_option maxHeartbeats 4000000
theorem lives_c : PureC Tryz.prog 14 [] (bav true) := by
  obtain ⟨L1, hL1, r1⟩ := lives_rep
  obtain ⟨g, L2, hg, hd, hL2, r2⟩ := lives_spl
  have r3 := lives_who
  have t1 := text0_c abc
  have t2 := text0_c [97]
  have hgm : (g.map Node.iv).length = 4 := by rw [List.length_map, hg]
  have hm1 : (L1.map Change.iv).length = 1 := by rw [List.length_map, hL1]
  have hm2 : (L2.map Change.iv).length = 5 := by rw [List.length_map, hL2]
  have hg3 : (atI g 3).data = [98, 99] := by
    rw [← hd, node_in ⟨by omega, by omega⟩]
    rfl
  have s1 := same_c [97, 120] [97, 120] (by simp) (by simp)
  have s2 := same_c (atI g 3).data [98, 99] (by rw [hg3]; simp) (by simp)
  rw [show dec (([97, 120] : List Int) = [97, 120]) = true by rw [dec_true]] at s1
  rw [show dec ((atI g 3).data = [98, 99]) = true by rw [dec_true]; exact hg3] at s2
  have ht3 : (textF [97, 120]).length = 3 := rfl
  have hx2 : (atI (textF [97, 120]) 2).data = [97, 120] := rfl
  have hm3 : ((textF [97, 120]).map Node.iv).length = 3 := rfl
  refine PureC.mk tabs Tryz.func14 89 [.tmp 0] rfl rfl rfl rfl rfl ?_; intro w0 X
  (repeat' (first | ((with_reducible show AL _ _ _ _ _); first | refine AL.give 0 (h1 := []) (env1 := [(11, .imm (.sl (abc.map u16)))]) (abc.map u16) rfl rfl ⟨⟨_, rfl, rfl⟩, trivial⟩ rfl rfl rfl (Nat.zero_le _) ?_ | refine AL.give 0 (h1 := []) (env1 := [(12, fav (textF abc)), (13, .imm (.sl (([120] : List Int).map u16)))]) (([120] : List Int).map u16) rfl rfl ⟨⟨_, rfl, rfl⟩, ⟨_, rfl, rfl⟩, trivial⟩ rfl rfl rfl (Nat.zero_le _) ?_ | refine AL.give 1 (h1 := [⟨24, 1, [[.imm (.sl ((textF [97, 120]).map Node.iv))]]⟩]) (env1 := [(1, .ptr 0 1 0 0), (2, .imm (.sl ((L1).map Change.iv))), (3, iav 0), (19, .imm (.sl (abc.map u16)))]) (abc.map u16) rfl rfl ⟨⟨_, rfl, rfl⟩, ⟨_, rfl, rfl⟩, ⟨_, rfl, rfl⟩, ⟨_, rfl, rfl⟩, trivial⟩ rfl rfl rfl (Nat.zero_le _) ?_ | refine AL.give 2 (h1 := [⟨24, 1, [[.imm (.sl ((textF [97, 120]).map Node.iv))]]⟩, ⟨24, 1, [[.imm (.sl ((g).map Node.iv))]]⟩]) (env1 := [(1, .ptr 0 1 0 0), (2, .imm (.sl ((L1).map Change.iv))), (3, iav 0), (4, .ptr 1 1 0 0), (5, iav 4), (6, .imm (.sl ((L2).map Change.iv))), (7, iav 0), (27, .imm (.sl (([97] : List Int).map u16)))]) (([97] : List Int).map u16) rfl rfl ⟨⟨_, rfl, rfl⟩, ⟨_, rfl, rfl⟩, ⟨_, rfl, rfl⟩, ⟨_, rfl, rfl⟩, ⟨_, rfl, rfl⟩, ⟨_, rfl, rfl⟩, ⟨_, rfl, rfl⟩, ⟨_, rfl, rfl⟩, trivial⟩ rfl rfl rfl (Nat.zero_le _) ?_ | (refine AL.step tabs rfl ?_; try dsimp only [len, List.nil_append, List.cons_append]) | refine AL.op rfl (OpOK.call rfl rfl rfl rfl t1 rfl) ?_ | refine AL.op rfl (OpOK.call rfl rfl rfl rfl t2 rfl) ?_ | refine AL.op rfl (OpOK.callfz rfl rfl rfl rfl s1 rfl rfl) ?_ | refine AL.op rfl (OpOK.callfz rfl rfl rfl rfl s2 rfl rfl) ?_ | refine AL.op rfl (OpOK.call rfl rfl rfl rfl r1 rfl) ?_ | refine AL.op rfl (OpOK.call rfl rfl rfl rfl r2 rfl) ?_ | refine AL.op rfl (OpOK.call rfl rfl rfl rfl r3 rfl) ?_ | refine AL.nil ?_ | (refine AL.gsplitE rfl rfl rfl (fun hc => ?_) (fun hc => ?_) <;> (fail_if_success (exact absurd hc (by decide))) <;> (try simp only [hsx] at hc) <;> (try first | (exfalso; omega) | contradiction | (exfalso; simp [dec_eq] at hc; done))) | (refine AL.op rfl (OpOK.ari64 rfl rfl rfl rfl rfl (by omega) (by omega)) ?_) | (refine AL.op rfl (OpOK.index_map tabs rfl rfl rfl rfl rfl rfl rfl (fun _ => rfl) (by decide) (by omega) (by omega)) ?_) | (refine AL.op rfl (OpOK.eqs rfl rfl rfl rfl eqt39 rfl rfl) ?_) | (refine AL.op rfl (OpOK.eqs rfl rfl rfl rfl eqt104 rfl rfl) ?_) | (refine AL.op rfl (OpOK.eqs rfl rfl rfl rfl eqt167 rfl rfl) ?_) | (refine AL.op rfl (OpOK.eqs rfl rfl rfl rfl eqt177 rfl rfl) ?_)) | refine AW.seq ?_ | refine AW.region ?_ | refine Then.norm ?_ | refine AW.skip ?_ | refine AW.block ?_ | refine InB.norm ?_ | refine AW.condT rfl ?_ | refine AW.condF rfl ?_ | (refine AW.cond rfl (fun hc => ?_) (fun hc => ?_) <;> (try simp only [hsx] at hc) <;> (try first | (exfalso; omega) | contradiction | (exfalso; simp [dec_eq] at hc; done))) | refine AW.ret ?_ | refine AW.exit ?_ | refine Then.ret ?_ | refine Then.exit ?_ | refine InB.ret ?_ | refine InB.here ?_ | refine InB.off rfl ?_ | refine Rnd.ret ?_ | refine Rnd.exit ?_))
  refine RQ.fin rfl rfl (congrArg bav ?_); simp [dec_eq]
end Go.Proofs.YtmhejcnaanocpaaGreat.A
namespace Go.Proofs.YtmhejcnaanocpaaGreat.A
open Go.RowKit
set_option linter.unusedVariables false
set_option linter.unusedSimpArgs false
section
variable {C : Cx} {s : St} {o : Oper} {T : List (Nat × TI)} {l : List Oper}
theorem LS.lit0 (hT : TsOK C.P T) (hw : awant l s o = some true) (hd : dok C.nt o.dst = true) {t e : TypeId} {ps : Array (Nat × Operand)} (ho : o.op = .buildSlice t 0 ps) (hp : ps.toList = []) {i ie : TI} (hi : look T t = some i) (hk : i.kd = .sl e) (hie : look T e = some ie) : LS C l s o (mkFx l s o (.val .nocap) []) :=
  LS.quiet [] hw fun s' hl => OpOK.lit0 hT hd ho hp hi hk hie
theorem LS.nocap0_imm (hT : TsOK C.P T) (hw : awant l s o = some true) (hd : dok C.nt o.dst = true) {x y : Operand} {t tx e e2 : TypeId} (ho : o.op = .call ⟨.builtin .append, #[x, y], #[t, tx]⟩) {i i2 ie : TI} (hi : look T t = some i) (hk : i.kd = .sl e) (hie : look T e = some ie) (hx : s.ev x = some .nocap) (hi2 : look T tx = some i2) (hk2 : i2.kd = .sl e2) {rows : List (List IV)} (hy : s.ev y = some (.imm (.sl rows))) (h0 : rows = []) : LS C l s o (mkFx l s o (.val .nocap) []) :=
  LS.quiet [] hw fun s' hl => by
    have hxm : x ∈ o.op.operands.toList := by rw [ho]; simp [Op.operands, Call.operands]
    have hym : y ∈ o.op.operands.toList := by rw [ho]; simp [Op.operands, Call.operands]
    subst h0
    exact OpOK.append_nocap0 hT hd ho hi hk hie ((hl.ev x hxm).trans hx) (SrcA.imm (rows := []) hT hi2 hk2 ((hl.ev y hym).trans hy) (fun r hr => by cases hr))
theorem LS.nocap_imm (p : Nat) (hT : TsOK C.P T) (hw : awant l s o = some true) (hd : dok C.nt o.dst = true) {x y : Operand} {t tx e e2 : TypeId} (ho : o.op = .call ⟨.builtin .append, #[x, y], #[t, tx]⟩) {i i2 ie : TI} (hi : look T t = some i) (hk : i.kd = .sl e) (hie : look T e = some ie) (hpos : 0 < ie.sz) (hx : s.ev x = some .nocap)
    {sz : Nat} (hp : nth s.hp p = some ⟨e, sz, []⟩) (hsz : sz = ie.sz) (hi2 : look T tx = some i2) (hk2 : i2.kd = .sl e2) {rows : List (List IV)} (hy : s.ev y = some (.imm (.sl rows))) (hne : rows ≠ []) (hrl : ∀ r ∈ rows, r.length = ie.sz) (hbound : rows.length * ie.bytes ≤ 140737488355328) (h63 : rows.length ≤ 9223372036854775807) :
    LS C l s o (mkFx l s o (.blk p ⟨e, sz, rows.map (·.map .imm)⟩ (.os p rows.length)) [p]) :=
  LS.blk [p] hw fun s' hl => by
    have hxm : x ∈ o.op.operands.toList := by rw [ho]; simp [Op.operands, Call.operands]
    have hym : y ∈ o.op.operands.toList := by rw [ho]; simp [Op.operands, Call.operands]
    have := OpOK.append_nocap_at p hT hd ho hi hk hie hpos ((hl.ev x hxm).trans hx) ((hl.xb p (by simp)).trans hp) hsz (by simpa using hne) (SrcA.imm (rows := rows) hT hi2 hk2 ((hl.ev y hym).trans hy) hrl) (by simpa using hbound) (by simpa using h63)
    rw [List.length_map] at this
    exact this
theorem LS.append_imm (hT : TsOK C.P T) (hw : awant l s o = some true) (hd : dok C.nt o.dst = true) {x y : Operand} {t tx e e2 : TypeId} (ho : o.op = .call ⟨.builtin .append, #[x, y], #[t, tx]⟩) {i i2 ie : TI} (hi : look T t = some i) (hk : i.kd = .sl e) (hie : look T e = some ie) {id n : Nat} (hx : s.ev x = some (.os id n))
    {ty sz : Nat} {rows : List (List AV)} (hb : nth s.hp id = some ⟨ty, sz, rows⟩) (hver : n = rows.length) (hty : ty = e) (hsz : sz = ie.sz) (hi2 : look T tx = some i2) (hk2 : i2.kd = .sl e2) {rows2 : List (List IV)} (hy : s.ev y = some (.imm (.sl rows2))) (hrl : ∀ r ∈ rows2, r.length = ie.sz) (hbound : (rows.length + rows2.length) * ie.bytes ≤ 140737488355328) (h63 : rows.length + rows2.length ≤ 9223372036854775807) :
    LS C l s o (mkFx l s o (.blk id ⟨ty, sz, rows ++ rows2.map (·.map .imm)⟩ (.os id (n + rows2.length))) []) := by
  have := LS.append_os hT hw hd ho hi hk hie hx hb hver hty hsz (rows2 := rows2.map (·.map .imm)) (fun s' hl => by
    have hym : y ∈ o.op.operands.toList := by rw [ho]; simp [Op.operands, Call.operands]
    exact SrcA.imm (rows := rows2) hT hi2 hk2 ((hl.ev y hym).trans hy) hrl) (by simpa using hbound) (by simpa using h63)
  rw [List.length_map] at this
  exact this
end
end Go.Proofs.YtmhejcnaanocpaaGreat.A
namespace Go.Proofs.YtmhejcnaanocpaaGreat.A
set_option linter.unusedVariables false
set_option linter.unusedSimpArgs false
set_option maxRecDepth 100000
set_option maxHeartbeats 4000000
theorem whole_c (f : List Node) (h : Int) (hf : Fit f) (he : cfP f h true = 0) : PureC Tryz.prog 18 [fav f, iav h] (.tup [.imm (.sl ((wholeP f h).map u16)), iav 0]) := by
  by_cases hp : (nodeAt f h).parent = 0
  · rw [show wholeP f h = (nodeAt f h).data by unfold wholeP; rw [if_pos hp]]
    exact whole0_c f h hf he hp
  · exact whole1_c f h hf he hp
theorem leftN_congr (t t' : Int → Bool) (l l' : List Int) : ∀ j : Nat, (∀ k : Nat, k < j → t (atI l k) = t' (atI l' k)) → leftN t l j = leftN t' l' j
  | 0, _ => rfl
  | j + 1, h => by
    unfold leftN
    rw [h j (Nat.lt_succ_self j), leftN_congr t t' l l' j fun k hk => h k (Nat.lt_succ_of_lt hk)]
theorem runGo_congr (f g : List Node) : ∀ l : List Int, (∀ k ∈ l, txt g k = txt f k ∧ (nodeAt g k).data = (nodeAt f k).data) → runGo g (txt g) l = runGo f (txt f) l
  | [], _ => rfl
  | x :: l, h => by
    unfold runGo
    rw [(h x (by simp)).1, (h x (by simp)).2, runGo_congr f g l fun k hk => h k (by simp [hk])]
theorem runGo_ins (f g : List Node) (h x : Int) (B : List Int) (hh : txt f h = true) (hh' : txt g h = true) (hx : txt g x = true) (hd : (nodeAt g h).data ++ (nodeAt g x).data = (nodeAt f h).data) (hB : ∀ k ∈ B, txt g k = txt f k ∧ (nodeAt g k).data = (nodeAt f k).data) : ∀ A : List Int, (∀ k ∈ A, txt g k = txt f k ∧ (nodeAt g k).data = (nodeAt f k).data) → runGo g (txt g) (A ++ h :: x :: B) = runGo f (txt f) (A ++ h :: B)
  | [], _ => by
    simp only [List.nil_append]
    rw [runGo, if_pos hh', runGo, if_pos hx, runGo, if_pos hh, ← List.append_assoc, hd, runGo_congr f g B hB]
  | y :: A, hA => by
    simp only [List.cons_append]
    rw [runGo, runGo, (hA y (by simp)).1, (hA y (by simp)).2, runGo_ins f g h x B hh hh' hx hd hB A fun k hk => hA k (by simp [hk])]
section
variable {f g : List Node} {h off : Int} (hr : rightP f) (hh : inR f h) (ht : textB (nodeAt f h).kind) (h0 : 0 ≤ off) (ho : off ≤ (nodeAt f h).data.length) (hdl : (nodeAt f h).data.length ≤ 1000000000) (S : SplitO f h off g)
include hr hh ht h0 ho hdl S
theorem so_h : nodeAt g h = { nodeAt f h with data := (nodeAt f h).data.take off.toNat } := by rw [S.node, if_pos rfl]
theorem so_x : nodeAt g (f.length + 1) = { restN f h off with parent := (nodeAt f h).parent } := by
  have h1 := hh.1
  have h2 := hh.2
  rw [S.node, if_neg (by omega), if_neg, if_pos rfl]
  rintro ⟨hp, e⟩
  obtain ⟨hq, _⟩ := right_mem hr hh hp
  have := hq.2
  omega
theorem so_k {k : Int} (k1 : k ≠ h) (k2 : k ≠ f.length + 1) : (nodeAt g k).kind = (nodeAt f k).kind ∧ (nodeAt g k).data = (nodeAt f k).data := by
  rw [S.node, if_neg k1]
  by_cases hq : (nodeAt f h).parent ≠ 0 ∧ k = (nodeAt f h).parent
  · rw [if_pos hq, hq.2]
    exact ⟨rfl, rfl⟩
  · rw [if_neg hq, if_neg k2]
    exact ⟨rfl, rfl⟩
theorem so_txt {k : Int} (k1 : k ≠ h) (k2 : k ≠ f.length + 1) : txt g k = txt f k ∧ (nodeAt g k).data = (nodeAt f k).data := by
  obtain ⟨a, b⟩ := so_k hr hh ht h0 ho hdl S k1 k2
  exact ⟨by unfold txt; rw [a], b⟩
theorem so_both : (nodeAt g h).data ++ (nodeAt g (f.length + 1)).data = (nodeAt f h).data := by
  rw [so_h hr hh ht h0 ho hdl S, so_x hr hh ht h0 ho hdl S]
  show (nodeAt f h).data.take off.toNat ++ restL f h off = _
  rw [rest_eq f h off h0 hdl ho, List.take_append_drop]
theorem so_cf : cfP g h true = 0 := by
  refine cf0 S.right ⟨hh.1, by have := hh.2; have := S.len; omega⟩ (.inl ?_) (fun _ => ?_) <;>
  · rw [so_h hr hh ht h0 ho hdl S]
    exact ht
theorem so_whole (hp : (nodeAt f h).parent ≠ 0) : wholeP g h = wholeP f h := by
  obtain ⟨hq, hm⟩ := right_mem hr hh hp
  obtain ⟨i, i0, i1, hi⟩ := mem_atI hm
  have hnd := right_dup hr hq
  have ei := idx_at hnd i0 i1
  have hqh : (nodeAt f h).parent ≠ h := fun e => (text_data ht).2.1 (node_self hr hh e)
  have hqx : (nodeAt f h).parent ≠ f.length + 1 := by have := hq.2; omega
  have hgq : nodeAt g (nodeAt f h).parent = { nodeAt f (nodeAt f h).parent with kids := insAt (nodeAt f (nodeAt f h).parent).kids (placeP f h + 1) (f.length + 1) } := by
    rw [S.node, if_neg hqh, if_pos ⟨hp, rfl⟩]
  have hgp : (nodeAt g h).parent = (nodeAt f h).parent := by rw [so_h hr hh ht h0 ho hdl S]
  have hpl : placeP f h = i := by have e := ei; rw [hi] at e; unfold placeP; omega
  have hlx : ∀ k ∈ (nodeAt f (nodeAt f h).parent).kids, k ≠ f.length + 1 := fun k hk => by
    have := (right_par hr hq hk).1.2
    omega
  obtain ⟨l, hl⟩ : ∃ l, l = (nodeAt f (nodeAt f h).parent).kids := ⟨_, rfl⟩
  unfold wholeP
  rw [hgp, if_neg hp, if_neg hp, hgq, hpl]
  simp only
  rw [← hl] at i1 hi hnd ei hm hlx ⊢
  rw [hi] at ei
  have hsp : l = l.take i.toNat ++ h :: l.drop (i + 1).toNat := by
    have := drop_next i0 i1
    rw [hi] at this
    rw [← this, List.take_append_drop]
  have hins : insAt l (i + 1) (f.length + 1) = l.take i.toNat ++ h :: ((f.length : Int) + 1) :: l.drop (i + 1).toNat := by
    unfold insAt
    rw [take_next i0 i1, hi]
    simp
  rw [ei]
  have hnd' := hnd
  rw [hsp, List.nodup_append] at hnd'
  obtain ⟨n1, n2, n3⟩ := hnd'
  rw [List.nodup_cons] at n2
  have hA : ∀ k ∈ l.take i.toNat, k ≠ h := fun k hk e => n3 k hk h (by simp) e
  have hB : ∀ k ∈ l.drop (i + 1).toNat, k ≠ h := fun k hk e => n2.1 (e ▸ hk)
  have hlen : (l.take i.toNat).length = i.toNat := by simp; omega
  have ei' : idx (insAt l (i + 1) (f.length + 1)) h = i := by
    have hg : inR g (nodeAt f h).parent := ⟨hq.1, by have := hq.2; have := S.len; omega⟩
    have hndg := right_dup S.right hg
    rw [hgq] at hndg
    simp only at hndg
    rw [← hl, hpl] at hndg
    have hlg : (insAt l (i + 1) (f.length + 1)).length = l.length + 1 := insAt_len _ _ _ (by omega) (by omega)
    have := idx_at hndg (j := i) i0 (by omega)
    rw [show atI (insAt l (i + 1) (f.length + 1)) i = h by
      rw [hins]
      unfold atI
      rw [List.getD_eq_getElem?_getD, List.getElem?_append_right (by omega), hlen]
      simp] at this
    exact this
  rw [ei']
  have hleft : leftN (txt g) (insAt l (i + 1) (f.length + 1)) i.toNat = leftN (txt f) l i.toNat := by
    refine leftN_congr _ _ _ _ _ fun k hk => ?_
    have hk1 : atI (insAt l (i + 1) (f.length + 1)) k = atI l k := by
      rw [hins]
      unfold atI
      rw [List.getD_eq_getElem?_getD, List.getD_eq_getElem?_getD, Int.toNat_natCast, List.getElem?_append_left (by omega)]
      rw [List.getElem?_take_of_lt hk]
    rw [hk1]
    have hmem : atI l (k : Int) ∈ l.take i.toNat := by
      refine List.mem_of_getElem? (i := k) ?_
      rw [List.getElem?_take_of_lt hk]
      have := atI_get (xs := l) (j := (k : Int)) (by omega) (by omega)
      rw [Int.toNat_natCast] at this
      exact this
    exact (so_txt hr hh ht h0 ho hdl S (hA _ hmem) (hlx _ (List.mem_of_mem_take hmem))).1
  rw [hleft]
  obtain ⟨m, hm'⟩ : ∃ m, m = leftN (txt f) l i.toNat := ⟨_, rfl⟩
  have hmi : m ≤ i.toNat := by rw [hm']; exact leftN_le _ _ _
  rw [← hm', hins]
  have e1 : (l.take i.toNat ++ h :: ((f.length : Int) + 1) :: l.drop (i + 1).toNat).drop m = (l.take i.toNat).drop m ++ h :: ((f.length : Int) + 1) :: l.drop (i + 1).toNat := List.drop_append_of_le_length (by omega)
  have e2 : l.drop m = (l.take i.toNat).drop m ++ h :: l.drop (i + 1).toNat := by
    have := List.drop_append_of_le_length (l₁ := l.take i.toNat) (l₂ := h :: l.drop (i + 1).toNat) (i := m) (by omega)
    rw [← hsp] at this
    exact this
  rw [e1, e2]
  have th : txt f h = true := by unfold txt; rw [dec_true]; exact ht
  have tg : txt g h = true := by unfold txt; rw [dec_true, so_h hr hh ht h0 ho hdl S]; exact ht
  have tx : txt g (f.length + 1) = true := by unfold txt; rw [dec_true, so_x hr hh ht h0 ho hdl S]; exact .inl rfl
  refine runGo_ins f g h (f.length + 1) _ th tg tx (so_both hr hh ht h0 ho hdl S) (fun k hk => ?_) _ (fun k hk => ?_)
  · exact so_txt hr hh ht h0 ho hdl S (hB k hk) (hlx _ (List.mem_of_mem_drop hk))
  · have := List.mem_of_mem_drop hk
    exact so_txt hr hh ht h0 ho hdl S (hA k this) (hlx _ (List.mem_of_mem_take this))
end
theorem partsNo_c (f : List Node) (h off w : Int) (hw : w ≠ 0) (c1 : PureC Tryz.prog 12 [fav f, iav h, u32 off] (.tup [fav [], iav 0, .imm (.sl []), iav w])) : PureC Tryz.prog 4 [fav f, iav h, u32 off] (bav true) := by
  refine PureC.mk tabs Tryz.func4 134 [.tmp 6] rfl rfl rfl rfl rfl ?_; intro w0 X
  (repeat' (first | ((with_reducible show AL _ _ _ _ _); first | (refine AL.step tabs rfl ?_; try dsimp only [len, List.nil_append, List.cons_append]) | refine AL.op rfl (OpOK.call rfl rfl rfl rfl lives_c rfl) ?_ | refine AL.op rfl (OpOK.call rfl rfl rfl rfl c1 rfl) ?_ | refine AL.nil ?_ | (refine AL.gsplitE rfl rfl rfl (fun hc => ?_) (fun hc => ?_) <;> (fail_if_success (exact absurd hc (by decide))) <;> (try simp only [hsx] at hc) <;> (try first | (exfalso; omega) | contradiction | (exfalso; simp [dec_eq] at hc; done))) | (refine AL.op rfl (OpOK.ari64 rfl rfl rfl rfl rfl (by omega) (by omega)) ?_) | (refine AL.op rfl (OpOK.index_map tabs rfl rfl rfl rfl rfl rfl rfl (fun _ => rfl) (by decide) (by omega) (by omega)) ?_) | (refine AL.op rfl (OpOK.eqs rfl rfl rfl rfl eqt39 rfl rfl) ?_) | (refine AL.op rfl (OpOK.eqs rfl rfl rfl rfl eqt104 rfl rfl) ?_) | (refine AL.op rfl (OpOK.eqs rfl rfl rfl rfl eqt167 rfl rfl) ?_) | (refine AL.op rfl (OpOK.eqs rfl rfl rfl rfl eqt177 rfl rfl) ?_)) | ((with_reducible show DQ _ _ _ _ _ _); first | refine DQ.stepc (LS.val tabs rfl rfl rfl) rfl rfl rfl rfl rfl ?_ | refine DQ.stepc (LS.skip rfl rfl) rfl rfl rfl rfl rfl ?_ | refine DQ.nilM (by kernel_rfl) ?_ | refine DQ.stepc (LS.ari64 rfl rfl rfl rfl rfl rfl (by omega) (by omega)) rfl rfl rfl rfl rfl ?_ | refine DQ.stepc (LS.index_map tabs rfl rfl rfl rfl rfl rfl rfl rfl (fun _ => rfl) (by decide) (by omega) (by omega)) rfl rfl rfl rfl rfl ?_ | (refine DQ.gsplitE rfl rfl rfl (fun hc => ?_) (fun hc => ?_) <;> (fail_if_success (exact absurd hc (by decide))) <;> (try simp only [hsx] at hc) <;> (try first | (exfalso; omega) | contradiction | (exfalso; simp [dec_eq] at hc; done))) | refine DQ.stepc (LS.eqs rfl rfl rfl rfl rfl eqt39 rfl rfl) rfl rfl rfl rfl rfl ?_ | refine DQ.stepc (LS.eqs rfl rfl rfl rfl rfl eqt104 rfl rfl) rfl rfl rfl rfl rfl ?_ | refine DQ.stepc (LS.eqs rfl rfl rfl rfl rfl eqt167 rfl rfl) rfl rfl rfl rfl rfl ?_ | refine DQ.stepc (LS.eqs rfl rfl rfl rfl rfl eqt177 rfl rfl) rfl rfl rfl rfl rfl ?_) | refine AW.seq ?_ | refine AW.region ?_ | refine Then.norm ?_ | refine AW.skip ?_ | refine AW.block ?_ | refine InB.norm ?_ | refine AW.condT rfl ?_ | refine AW.condF rfl ?_ | (refine AW.cond rfl (fun hc => ?_) (fun hc => ?_) <;> (try simp only [hsx] at hc) <;> (try first | (exfalso; omega) | contradiction | (exfalso; simp [dec_eq] at hc; done))) | refine AW.ret ?_ | refine AW.exit ?_ | refine Then.ret ?_ | refine Then.exit ?_ | refine InB.ret ?_ | refine InB.here ?_ | refine InB.off rfl ?_ | refine Rnd.ret ?_ | refine Rnd.exit ?_ | refine AW.drawW mixed (by kernel_rfl) ?_))
  all_goals first
    | exact RQ.fin rfl rfl rfl
    | (exfalso; exact hw hc)
theorem parts_core (f g : List Node) (L : List Change) (h off : Int) (a b : List Int) (hf : f.length ≤ 1000000000) (hg : g.length ≤ 1000000000) (hgl : g.length = f.length + 1) (h1 : 1 ≤ h) (h2 : h ≤ f.length) (h0 : 0 ≤ off) (h3 : off < 4294967296)
    (c1 : PureC Tryz.prog 12 [fav f, iav h, u32 off] (.tup [fav g, iav (f.length + 1), .imm (.sl (L.map Change.iv)), iav 0])) (w1 : PureC Tryz.prog 18 [fav f, iav h] (.tup [.imm (.sl (a.map u16)), iav 0])) (w2 : PureC Tryz.prog 18 [fav g, iav h] (.tup [.imm (.sl (b.map u16)), iav 0]))
    (ha : a.length ≤ 1000000000) (hb : b.length ≤ 1000000000) (hd1 : (atI g (h - 1)).data.length ≤ 1000000) (hd2 : (atI g ((f.length : Int) + 1 - 1)).data.length ≤ 1000000) (hd3 : (atI f (h - 1)).data.length ≤ 1000000)
    (hdl : ((atI g (h - 1)).data.length : Int) = off) (hboth : (atI g (h - 1)).data ++ (atI g ((f.length : Int) + 1 - 1)).data = (atI f (h - 1)).data) (hpar : (atI f (h - 1)).parent = 0 → (atI g ((f.length : Int) + 1 - 1)).parent = 0) (hwh : (atI f (h - 1)).parent ≠ 0 → a = b) : PureC Tryz.prog 4 [fav f, iav h, u32 off] (bav true) := by
  have hmf : (f.map Node.iv).length = f.length := List.length_map _
  have hmg : (g.map Node.iv).length = g.length := List.length_map _
  have s1 := same_c ((atI g (h - 1)).data ++ (atI g ((f.length : Int) + 1 - 1)).data) (atI f (h - 1)).data (by rw [List.length_append]; omega) (by omega)
  rw [show dec ((atI g (h - 1)).data ++ (atI g ((f.length : Int) + 1 - 1)).data = (atI f (h - 1)).data) = true by rw [dec_true]; exact hboth] at s1
  have s2 := same_c a b ha hb
  have hmd : ((atI g (h - 1)).data.map u16).length = (atI g (h - 1)).data.length := List.length_map _
  refine PureC.mk tabs Tryz.func4 134 [.tmp 6] rfl rfl rfl rfl rfl ?_; intro w0 X
  refine AW.reserve 55 1 rfl ?_
  (repeat' (first | ((with_reducible show AL _ _ _ _ _); first | (refine AL.step tabs rfl ?_; try dsimp only [len, List.nil_append, List.cons_append]) | refine AL.op rfl (OpOK.call rfl rfl rfl rfl lives_c rfl) ?_ | refine AL.op rfl (OpOK.call rfl rfl rfl rfl c1 rfl) ?_ | refine AL.op rfl (OpOK.call rfl rfl rfl rfl w1 rfl) ?_ | refine AL.op rfl (OpOK.call rfl rfl rfl rfl w2 rfl) ?_ | refine AL.op rfl (OpOK.call rfl rfl rfl rfl s2 rfl) ?_ | refine AL.nil ?_ | (refine AL.gsplitE rfl rfl rfl (fun hc => ?_) (fun hc => ?_) <;> (fail_if_success (exact absurd hc (by decide))) <;> (try simp only [hsx] at hc) <;> (try first | (exfalso; omega) | contradiction | (exfalso; simp [dec_eq] at hc; done))) | (refine AL.op rfl (OpOK.ari64 rfl rfl rfl rfl rfl (by omega) (by omega)) ?_) | (refine AL.op rfl (OpOK.index_map tabs rfl rfl rfl rfl rfl rfl rfl (fun _ => rfl) (by decide) (by omega) (by omega)) ?_) | (refine AL.op rfl (OpOK.eqs rfl rfl rfl rfl eqt39 rfl rfl) ?_) | (refine AL.op rfl (OpOK.eqs rfl rfl rfl rfl eqt104 rfl rfl) ?_) | (refine AL.op rfl (OpOK.eqs rfl rfl rfl rfl eqt167 rfl rfl) ?_) | (refine AL.op rfl (OpOK.eqs rfl rfl rfl rfl eqt177 rfl rfl) ?_)) | ((with_reducible show DQ _ _ _ _ _ _); first | refine DQ.stepc (LS.val tabs rfl rfl rfl) rfl rfl rfl rfl rfl ?_ | refine DQ.stepc (LS.skip rfl rfl) rfl rfl rfl rfl rfl ?_ | refine DQ.nilM (by kernel_rfl) ?_ | refine DQ.stepc (LS.ari64 rfl rfl rfl rfl rfl rfl (by omega) (by omega)) rfl rfl rfl rfl rfl ?_ | refine DQ.stepc (LS.index_map tabs rfl rfl rfl rfl rfl rfl rfl rfl (fun _ => rfl) (by decide) (by omega) (by omega)) rfl rfl rfl rfl rfl ?_ | (refine DQ.gsplitE rfl rfl rfl (fun hc => ?_) (fun hc => ?_) <;> (fail_if_success (exact absurd hc (by decide))) <;> (try simp only [hsx] at hc) <;> (try first | (exfalso; omega) | contradiction | (exfalso; simp [dec_eq] at hc; done))) | refine DQ.stepc (LS.eqs rfl rfl rfl rfl rfl eqt39 rfl rfl) rfl rfl rfl rfl rfl ?_ | refine DQ.stepc (LS.eqs rfl rfl rfl rfl rfl eqt104 rfl rfl) rfl rfl rfl rfl rfl ?_ | refine DQ.stepc (LS.eqs rfl rfl rfl rfl rfl eqt167 rfl rfl) rfl rfl rfl rfl rfl ?_ | refine DQ.stepc (LS.eqs rfl rfl rfl rfl rfl eqt177 rfl rfl) rfl rfl rfl rfl rfl ?_) | refine AW.seq ?_ | refine AW.region ?_ | refine Then.norm ?_ | refine AW.skip ?_ | refine AW.block ?_ | refine InB.norm ?_ | refine AW.condT rfl ?_ | refine AW.condF rfl ?_ | (refine AW.cond rfl (fun hc => ?_) (fun hc => ?_) <;> (try simp only [hsx] at hc) <;> (try first | (exfalso; omega) | contradiction | (exfalso; simp [dec_eq] at hc; done))) | refine AW.ret ?_ | refine AW.exit ?_ | refine Then.ret ?_ | refine Then.exit ?_ | refine InB.ret ?_ | refine InB.here ?_ | refine InB.off rfl ?_ | refine Rnd.ret ?_ | refine Rnd.exit ?_ | refine AW.drawW mixed (by kernel_rfl) ?_))
  obtain ⟨u, hue⟩ : ∃ u, u = (atI g (h - 1)).data := ⟨_, rfl⟩
  obtain ⟨v, hve⟩ : ∃ v, v = (atI g ((f.length : Int) + 1 - 1)).data := ⟨_, rfl⟩
  have hul : (atI g (h - 1)).data.map u16 = u.map u16 := by rw [hue]
  have hvl : (atI g ((f.length : Int) + 1 - 1)).data.map u16 = v.map u16 := by rw [hve]
  rw [← hue, ← hve] at s1
  have hu1 : u.length ≤ 1000000 := by rw [hue]; exact hd1
  have hv1 : v.length ≤ 1000000 := by rw [hve]; exact hd2
  by_cases hu : u = []
  · by_cases hv : v = []
    · rw [hu, hv] at s1
      (repeat' (first | ((with_reducible show AL _ _ _ _ _); first | refine AL.op rfl (OpOK.toI64 tabs rfl rfl rfl rfl rfl rfl (by omega) (by omega)) ?_ | (refine AL.step tabs rfl ?_; try dsimp only [len, List.nil_append, List.cons_append]) | refine AL.op rfl (OpOK.callfz rfl rfl rfl rfl s1 rfl rfl) ?_ | refine AL.op rfl (OpOK.call rfl rfl rfl rfl w1 rfl) ?_ | refine AL.op rfl (OpOK.call rfl rfl rfl rfl w2 rfl) ?_ | refine AL.op rfl (OpOK.call rfl rfl rfl rfl s2 rfl) ?_ | refine AL.nil ?_ | (refine AL.gsplitE rfl rfl rfl (fun hc => ?_) (fun hc => ?_) <;> (fail_if_success (exact absurd hc (by decide))) <;> (try simp only [hsx] at hc) <;> (try first | (exfalso; omega) | contradiction | (exfalso; simp [dec_eq] at hc; done))) | (refine AL.op rfl (OpOK.ari64 rfl rfl rfl rfl rfl (by omega) (by omega)) ?_) | (refine AL.op rfl (OpOK.index_map tabs rfl rfl rfl rfl rfl rfl rfl (fun _ => rfl) (by decide) (by omega) (by omega)) ?_) | (refine AL.op rfl (OpOK.eqs rfl rfl rfl rfl eqt39 rfl rfl) ?_) | (refine AL.op rfl (OpOK.eqs rfl rfl rfl rfl eqt104 rfl rfl) ?_) | (refine AL.op rfl (OpOK.eqs rfl rfl rfl rfl eqt167 rfl rfl) ?_) | (refine AL.op rfl (OpOK.eqs rfl rfl rfl rfl eqt177 rfl rfl) ?_)) | ((with_reducible show DQ _ _ _ _ _ _); first | refine DQ.stepc (LS.lit0 tabs rfl rfl rfl rfl rfl rfl rfl) rfl rfl rfl rfl rfl ?_ | refine DQ.stepc (LS.nocap0_imm tabs rfl rfl rfl rfl rfl rfl rfl rfl rfl rfl (by rw [hul, hu]; rfl)) rfl rfl rfl rfl rfl ?_ | refine DQ.stepc (LS.nocap0_imm tabs rfl rfl rfl rfl rfl rfl rfl rfl rfl rfl (by rw [hvl, hv]; rfl)) rfl rfl rfl rfl rfl ?_ | refine DQ.stepc (LS.val tabs rfl rfl rfl) rfl rfl rfl rfl rfl ?_ | refine DQ.stepc (LS.skip rfl rfl) rfl rfl rfl rfl rfl ?_ | refine DQ.nilM (by kernel_rfl) ?_ | refine DQ.stepc (LS.ari64 rfl rfl rfl rfl rfl rfl (by omega) (by omega)) rfl rfl rfl rfl rfl ?_ | refine DQ.stepc (LS.index_map tabs rfl rfl rfl rfl rfl rfl rfl rfl (fun _ => rfl) (by decide) (by omega) (by omega)) rfl rfl rfl rfl rfl ?_ | (refine DQ.gsplitE rfl rfl rfl (fun hc => ?_) (fun hc => ?_) <;> (fail_if_success (exact absurd hc (by decide))) <;> (try simp only [hsx] at hc) <;> (try first | (exfalso; omega) | contradiction | (exfalso; simp [dec_eq] at hc; done))) | refine DQ.stepc (LS.eqs rfl rfl rfl rfl rfl eqt39 rfl rfl) rfl rfl rfl rfl rfl ?_ | refine DQ.stepc (LS.eqs rfl rfl rfl rfl rfl eqt104 rfl rfl) rfl rfl rfl rfl rfl ?_ | refine DQ.stepc (LS.eqs rfl rfl rfl rfl rfl eqt167 rfl rfl) rfl rfl rfl rfl rfl ?_ | refine DQ.stepc (LS.eqs rfl rfl rfl rfl rfl eqt177 rfl rfl) rfl rfl rfl rfl rfl ?_) | refine AW.seq ?_ | refine AW.region ?_ | refine Then.norm ?_ | refine AW.skip ?_ | refine AW.block ?_ | refine InB.norm ?_ | refine AW.condT rfl ?_ | refine AW.condF rfl ?_ | (refine AW.cond rfl (fun hc => ?_) (fun hc => ?_) <;> (try simp only [hsx] at hc) <;> (try first | (exfalso; omega) | contradiction | (exfalso; simp [dec_eq] at hc; done))) | refine AW.ret ?_ | refine AW.exit ?_ | refine Then.ret ?_ | refine Then.exit ?_ | refine InB.ret ?_ | refine InB.here ?_ | refine InB.off rfl ?_ | refine Rnd.ret ?_ | refine Rnd.exit ?_ | refine AW.drawW mixed (by kernel_rfl) ?_))
      all_goals first
        | exact RQ.fin rfl rfl (congrArg bav (by rw [dec_true]; exact hpar hc))
        | exact RQ.fin rfl rfl (congrArg bav (by rw [dec_true]; exact hwh (by assumption)))
    · rw [hu, List.nil_append] at s1
      (repeat' (first | ((with_reducible show AL _ _ _ _ _); first | refine AL.op rfl (OpOK.toI64 tabs rfl rfl rfl rfl rfl rfl (by omega) (by omega)) ?_ | (refine AL.step tabs rfl ?_; try dsimp only [len, List.nil_append, List.cons_append]) | refine AL.op rfl (OpOK.callsc rfl rfl rfl rfl (.cons (Fz.os (b := ⟨55, 1, (v.map u16).map (·.map .imm)⟩) (rows := v.map u16) rfl (List.length_map _).symm rfl) (.cons (Fz.im rfl) .nil)) s1 rfl) ?_ | refine AL.op rfl (OpOK.call rfl rfl rfl rfl w1 rfl) ?_ | refine AL.op rfl (OpOK.call rfl rfl rfl rfl w2 rfl) ?_ | refine AL.op rfl (OpOK.call rfl rfl rfl rfl s2 rfl) ?_ | refine AL.nil ?_ | (refine AL.gsplitE rfl rfl rfl (fun hc => ?_) (fun hc => ?_) <;> (fail_if_success (exact absurd hc (by decide))) <;> (try simp only [hsx] at hc) <;> (try first | (exfalso; omega) | contradiction | (exfalso; simp [dec_eq] at hc; done))) | (refine AL.op rfl (OpOK.ari64 rfl rfl rfl rfl rfl (by omega) (by omega)) ?_) | (refine AL.op rfl (OpOK.index_map tabs rfl rfl rfl rfl rfl rfl rfl (fun _ => rfl) (by decide) (by omega) (by omega)) ?_) | (refine AL.op rfl (OpOK.eqs rfl rfl rfl rfl eqt39 rfl rfl) ?_) | (refine AL.op rfl (OpOK.eqs rfl rfl rfl rfl eqt104 rfl rfl) ?_) | (refine AL.op rfl (OpOK.eqs rfl rfl rfl rfl eqt167 rfl rfl) ?_) | (refine AL.op rfl (OpOK.eqs rfl rfl rfl rfl eqt177 rfl rfl) ?_)) | ((with_reducible show DQ _ _ _ _ _ _); first | refine DQ.stepc (LS.lit0 tabs rfl rfl rfl rfl rfl rfl rfl) rfl rfl rfl rfl rfl ?_ | refine DQ.stepc (LS.nocap0_imm tabs rfl rfl rfl rfl rfl rfl rfl rfl rfl rfl (by rw [hul, hu]; rfl)) rfl rfl rfl rfl rfl ?_ | refine DQ.stepc (LS.nocap_imm 0 (rows := v.map u16) (ie := ti55) tabs rfl rfl rfl rfl rfl rfl (by decide) rfl rfl rfl rfl rfl (by rw [← hvl]; rfl) (by simpa using hv) (u16_len _) (by simp [ti55]; omega) (by simp; omega)) rfl rfl rfl rfl rfl ?_ | refine DQ.stepc (LS.val tabs rfl rfl rfl) rfl rfl rfl rfl rfl ?_ | refine DQ.stepc (LS.skip rfl rfl) rfl rfl rfl rfl rfl ?_ | refine DQ.nilM (by kernel_rfl) ?_ | refine DQ.stepc (LS.ari64 rfl rfl rfl rfl rfl rfl (by omega) (by omega)) rfl rfl rfl rfl rfl ?_ | refine DQ.stepc (LS.index_map tabs rfl rfl rfl rfl rfl rfl rfl rfl (fun _ => rfl) (by decide) (by omega) (by omega)) rfl rfl rfl rfl rfl ?_ | (refine DQ.gsplitE rfl rfl rfl (fun hc => ?_) (fun hc => ?_) <;> (fail_if_success (exact absurd hc (by decide))) <;> (try simp only [hsx] at hc) <;> (try first | (exfalso; omega) | contradiction | (exfalso; simp [dec_eq] at hc; done))) | refine DQ.stepc (LS.eqs rfl rfl rfl rfl rfl eqt39 rfl rfl) rfl rfl rfl rfl rfl ?_ | refine DQ.stepc (LS.eqs rfl rfl rfl rfl rfl eqt104 rfl rfl) rfl rfl rfl rfl rfl ?_ | refine DQ.stepc (LS.eqs rfl rfl rfl rfl rfl eqt167 rfl rfl) rfl rfl rfl rfl rfl ?_ | refine DQ.stepc (LS.eqs rfl rfl rfl rfl rfl eqt177 rfl rfl) rfl rfl rfl rfl rfl ?_) | refine AW.seq ?_ | refine AW.region ?_ | refine Then.norm ?_ | refine AW.skip ?_ | refine AW.block ?_ | refine InB.norm ?_ | refine AW.condT rfl ?_ | refine AW.condF rfl ?_ | (refine AW.cond rfl (fun hc => ?_) (fun hc => ?_) <;> (try simp only [hsx] at hc) <;> (try first | (exfalso; omega) | contradiction | (exfalso; simp [dec_eq] at hc; done))) | refine AW.ret ?_ | refine AW.exit ?_ | refine Then.ret ?_ | refine Then.exit ?_ | refine InB.ret ?_ | refine InB.here ?_ | refine InB.off rfl ?_ | refine Rnd.ret ?_ | refine Rnd.exit ?_ | refine AW.drawW mixed (by kernel_rfl) ?_))
      all_goals first
        | exact RQ.fin rfl rfl (congrArg bav (by rw [dec_true]; exact hpar hc))
        | exact RQ.fin rfl rfl (congrArg bav (by rw [dec_true]; exact hwh (by assumption)))
  · (repeat' (first | ((with_reducible show AL _ _ _ _ _); first | refine AL.op rfl (OpOK.toI64 tabs rfl rfl rfl rfl rfl rfl (by omega) (by omega)) ?_ | (refine AL.step tabs rfl ?_; try dsimp only [len, List.nil_append, List.cons_append]) | refine AL.op rfl (OpOK.callsc rfl rfl rfl rfl (.cons (Fz.os (b := ⟨55, 1, (u.map u16).map (·.map .imm) ++ (v.map u16).map (·.map .imm)⟩) (rows := (u ++ v).map u16) rfl (by simp) (by rw [List.map_append, List.map_append])) (.cons (Fz.im rfl) .nil)) s1 rfl) ?_ | refine AL.op rfl (OpOK.call rfl rfl rfl rfl w1 rfl) ?_ | refine AL.op rfl (OpOK.call rfl rfl rfl rfl w2 rfl) ?_ | refine AL.op rfl (OpOK.call rfl rfl rfl rfl s2 rfl) ?_ | refine AL.nil ?_ | (refine AL.gsplitE rfl rfl rfl (fun hc => ?_) (fun hc => ?_) <;> (fail_if_success (exact absurd hc (by decide))) <;> (try simp only [hsx] at hc) <;> (try first | (exfalso; omega) | contradiction | (exfalso; simp [dec_eq] at hc; done))) | (refine AL.op rfl (OpOK.ari64 rfl rfl rfl rfl rfl (by omega) (by omega)) ?_) | (refine AL.op rfl (OpOK.index_map tabs rfl rfl rfl rfl rfl rfl rfl (fun _ => rfl) (by decide) (by omega) (by omega)) ?_) | (refine AL.op rfl (OpOK.eqs rfl rfl rfl rfl eqt39 rfl rfl) ?_) | (refine AL.op rfl (OpOK.eqs rfl rfl rfl rfl eqt104 rfl rfl) ?_) | (refine AL.op rfl (OpOK.eqs rfl rfl rfl rfl eqt167 rfl rfl) ?_) | (refine AL.op rfl (OpOK.eqs rfl rfl rfl rfl eqt177 rfl rfl) ?_)) | ((with_reducible show DQ _ _ _ _ _ _); first | refine DQ.stepc (LS.lit0 tabs rfl rfl rfl rfl rfl rfl rfl) rfl rfl rfl rfl rfl ?_ | refine DQ.stepc (LS.nocap_imm 0 (rows := u.map u16) (ie := ti55) tabs rfl rfl rfl rfl rfl rfl (by decide) rfl rfl rfl rfl rfl (by rw [← hul]; rfl) (by simpa using hu) (u16_len _) (by simp [ti55]; omega) (by simp; omega)) rfl rfl rfl rfl rfl ?_ | refine DQ.stepc (LS.append_imm (rows := (u.map u16).map (·.map .imm)) (rows2 := v.map u16) (ie := ti55) tabs rfl rfl rfl rfl rfl rfl rfl rfl (List.length_map _).symm rfl rfl rfl rfl (by rw [← hvl]; rfl) (u16_len _) (by simp [ti55]; omega) (by simp; omega)) rfl rfl rfl rfl rfl ?_ | refine DQ.stepc (LS.val tabs rfl rfl rfl) rfl rfl rfl rfl rfl ?_ | refine DQ.stepc (LS.skip rfl rfl) rfl rfl rfl rfl rfl ?_ | refine DQ.nilM (by kernel_rfl) ?_ | refine DQ.stepc (LS.ari64 rfl rfl rfl rfl rfl rfl (by omega) (by omega)) rfl rfl rfl rfl rfl ?_ | refine DQ.stepc (LS.index_map tabs rfl rfl rfl rfl rfl rfl rfl rfl (fun _ => rfl) (by decide) (by omega) (by omega)) rfl rfl rfl rfl rfl ?_ | (refine DQ.gsplitE rfl rfl rfl (fun hc => ?_) (fun hc => ?_) <;> (fail_if_success (exact absurd hc (by decide))) <;> (try simp only [hsx] at hc) <;> (try first | (exfalso; omega) | contradiction | (exfalso; simp [dec_eq] at hc; done))) | refine DQ.stepc (LS.eqs rfl rfl rfl rfl rfl eqt39 rfl rfl) rfl rfl rfl rfl rfl ?_ | refine DQ.stepc (LS.eqs rfl rfl rfl rfl rfl eqt104 rfl rfl) rfl rfl rfl rfl rfl ?_ | refine DQ.stepc (LS.eqs rfl rfl rfl rfl rfl eqt167 rfl rfl) rfl rfl rfl rfl rfl ?_ | refine DQ.stepc (LS.eqs rfl rfl rfl rfl rfl eqt177 rfl rfl) rfl rfl rfl rfl rfl ?_) | refine AW.seq ?_ | refine AW.region ?_ | refine Then.norm ?_ | refine AW.skip ?_ | refine AW.block ?_ | refine InB.norm ?_ | refine AW.condT rfl ?_ | refine AW.condF rfl ?_ | (refine AW.cond rfl (fun hc => ?_) (fun hc => ?_) <;> (try simp only [hsx] at hc) <;> (try first | (exfalso; omega) | contradiction | (exfalso; simp [dec_eq] at hc; done))) | refine AW.ret ?_ | refine AW.exit ?_ | refine Then.ret ?_ | refine Then.exit ?_ | refine InB.ret ?_ | refine InB.here ?_ | refine InB.off rfl ?_ | refine Rnd.ret ?_ | refine Rnd.exit ?_ | refine AW.drawW mixed (by kernel_rfl) ?_))
    all_goals first
        | exact RQ.fin rfl rfl (congrArg bav (by rw [dec_true]; exact hpar hc))
        | exact RQ.fin rfl rfl (congrArg bav (by rw [dec_true]; exact hwh (by assumption)))
theorem whole_len (f : List Node) (h : Int) (hf : Fit f) (hr : rightP f) : (wholeP f h).length ≤ 1000000000 := by
  have key : ∀ (t : Int → Bool) (l : List Int) (m : Nat), (∀ k ∈ l, (nodeAt f k).data.length ≤ m) → (runGo f t l).length ≤ l.length * m := by
    intro t l m
    induction l with
    | nil => intro _; simp [runGo]
    | cons x l ih =>
      intro hl
      unfold runGo
      split
      · have h1 := hl x (by simp)
        have h2 := ih fun k hk => hl k (by simp [hk])
        rw [List.length_append, List.length_cons, Nat.succ_mul]
        omega
      · simp
  have hd : ∀ k, (nodeAt f k).data.length ≤ 16384 := by
    intro k
    by_cases hk : inR f k
    · have := (right_node hr hk).1.2.2.1.1
      omega
    · rw [node_out hk]; simp [n0]
  unfold wholeP
  split
  · have := hd h; omega
  · have h1 := key (txt f) ((nodeAt f (nodeAt f h).parent).kids.drop (leftN (txt f) (nodeAt f (nodeAt f h).parent).kids (idx (nodeAt f (nodeAt f h).parent).kids h).toNat)) 16384 fun k _ => hd k
    have h2 := right_few hr (nodeAt f h).parent
    refine Nat.le_trans h1 ?_
    rw [List.length_drop]
    omega
theorem parts_all (f : List Node) (h off : Int) (hf : Fit f) (h0 : 0 ≤ off) (h1 : off < 4294967296) : PureC Tryz.prog 4 [fav f, iav h, u32 off] (bav true) := by
  have hs := splitA_c f h off hf h0 h1
  unfold splitA at hs
  by_cases he : cfP f h true = 0
  · rw [if_neg (by omega)] at hs
    obtain ⟨hr, hh, ht, _⟩ := cf_right he
    have ht := ht rfl
    by_cases ho : off ≤ (nodeAt f h).data.length
    · rw [if_neg (by omega)] at hs
      by_cases hw : (splQ f h off).why = 0
      · rw [if_neg (by omega)] at hs
        obtain ⟨_, S, _⟩ := split_out hf hr hh ht h0 ho hw
        obtain ⟨g, hg⟩ : ∃ g, g = (splQ f h off).F := ⟨_, rfl⟩
        rw [← hg] at hs S
        have hdl := (hf.at h).data
        have hd16 : ∀ (k : List Node) (x : Int), rightP k → (nodeAt k x).data.length ≤ 1000000 := by
          intro k x hk
          by_cases hx : inR k x
          · have := (right_node hk hx).1.2.2.1.1
            omega
          · rw [node_out hx]; simp [n0]
        have hh1 := hh.1
        have hh2 := hh.2
        have hgl := S.len
        have ing : inR g h := ⟨hh.1, by omega⟩
        have inx : inR g (f.length + 1) := ⟨by omega, by omega⟩
        have eg := so_h hr hh ht h0 ho hdl S
        have ex := so_x hr hh ht h0 ho hdl S
        have eb := so_both hr hh ht h0 ho hdl S
        have d1 := hd16 g h S.right
        have d2 := hd16 g (f.length + 1) S.right
        have d3 := hd16 f h hr
        have dl : ((nodeAt g h).data.length : Int) = off := by rw [eg]; simp; omega
        have hp : (nodeAt f h).parent = 0 → (nodeAt g (f.length + 1)).parent = 0 := fun e => by rw [ex]; exact e
        have hq : (nodeAt f h).parent ≠ 0 → wholeP f h = wholeP g h := fun e => (so_whole hr hh ht h0 ho hdl S e).symm
        rw [node_in ing] at d1 dl eb
        rw [node_in inx] at d2 hp eb
        rw [node_in hh] at d3 eb hp hq
        exact parts_core f g _ h off (wholeP f h) (wholeP g h) hf.len S.fit.len hgl hh1 hh2 h0 h1 hs (whole_c f h hf he) (whole_c g h S.fit (so_cf hr hh ht h0 ho hdl S)) (whole_len f h hf hr) (whole_len g h S.fit S.right) d1 d2 d3 dl eb hp hq
      · rw [if_pos hw] at hs
        exact partsNo_c f h off _ hw hs
    · rw [if_pos (by omega)] at hs
      exact partsNo_c f h off _ (by omega) hs
  · rw [if_pos he] at hs
    exact partsNo_c f h off _ he hs
end Go.Proofs.YtmhejcnaanocpaaGreat.A
