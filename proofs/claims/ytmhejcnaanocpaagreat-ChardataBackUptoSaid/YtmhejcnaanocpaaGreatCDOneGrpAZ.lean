/- What chardata.Split answers: the forest that comes of it. -/
import Derived.Test.YtmhejcnaanocpaaGreatCDOneGrpAY
import Derived.Test.YtmhejcnaanocpaaGreatCDOneGrpAX
import Derived.Test.YtmhejcnaanocpaaGreatCDOneGrpAW
import Derived.Test.YtmhejcnaanocpaaGreatCDOneGrpAJ
namespace Go.Proofs.YtmhejcnaanocpaaGreat.A
set_option linter.unusedVariables false
set_option linter.unusedSimpArgs false
set_option maxRecDepth 100000
set_option maxHeartbeats 4000000
theorem node_self {f : List Node} (hr : rightP f) {h : Int} (hh : inR f h) : (nodeAt f h).parent = h → (nodeAt f h).kind = 12 := by
  intro e
  apply Classical.byContradiction
  intro h12
  have h1 : upN f h = h := by
    rw [upN_node hh]
    unfold aboveOf
    rw [if_neg h12]
    exact e
  have := reach_one hh
  rw [h1] at this
  exact reach_loop this (right_node hr hh).2.2
theorem text_data {k : Int} (h : textB k) : (traitsOf k).data = true ∧ k ≠ 12 ∧ (traitsOf k).hung = true := by
  rcases h with h | h <;> subst h <;> decide
theorem inv0 {f : List Node} (hf : Fit f) (hr : rightP f) {h : Int} (hh : inR f h) : InvP (pen0 f) := ⟨hf, hr, by have := hh.1; have := hh.2; show 0 < f.length; omega, fun c hc => by cases hc⟩
/-- Replacing up to the end. -/
theorem replP_end (l : List Int) (off cnt : Int) (v : List Int) (h0 : 0 ≤ off) (h1 : 0 ≤ cnt) (h2 : off ≤ l.length) (h3 : l.length ≤ off + cnt) : replP l off cnt v = if 16384 < off + v.length then ([], 4) else (l.take off.toNat ++ v, 0) := by
  have hs : spTo l.length off cnt = l.length := by unfold spTo; omega
  unfold replP
  rw [if_neg (by omega), hs]
  by_cases h : 16384 < off + v.length
  · rw [if_pos (by omega), if_pos h]
  · rw [if_neg (by omega), if_neg h]
    unfold replL
    rw [List.drop_eq_nil_of_le (by omega), List.append_nil]
theorem rest_eq (f : List Node) (h off : Int) (h0 : 0 ≤ off) (hl : (nodeAt f h).data.length ≤ 1000000000) (ho : off ≤ (nodeAt f h).data.length) : restL f h off = (nodeAt f h).data.drop off.toNat := by
  unfold restL subP
  rw [show spTo (nodeAt f h).data.length off 4294967295 = (nodeAt f h).data.length by unfold spTo; omega, List.take_of_length_le (by omega)]
section
variable {f : List Node} {h off : Int} (hf : Fit f) (hr : rightP f) (hh : inR f h) (ht : textB (nodeAt f h).kind) (h0 : 0 ≤ off) (ho : off ≤ (nodeAt f h).data.length)
include hf hr hh ht h0 ho
theorem restN_fit : FitN (restN f h off) := by
  have _ := hr; have _ := hh; have _ := ht; have _ := h0; have _ := ho
  exact ⟨Nat.le_trans (sub_len _ _ _) (hf.at h).data, by simp [restN, n0], by simp [restN, n0]⟩
theorem can1 : CanCh f (mkCh (f.length + 1) (restN f h off)) := .mk _ (restN_fit hf hr hh ht h0 ho) (by simp [restN])
theorem inv1 : InvP (spl1 f h off).1 := doS_inv (inv0 hf hr hh) fun _ => can1 hf hr hh ht h0 ho
theorem ok1 (hb : (spl1 f h off).2 = true) : spl1 f h off = (⟨f ++ [restN f h off], [mkCh (f.length + 1) (restN f h off)], 0⟩, true) := by
  have _ := hf; have _ := hr; have _ := hh; have _ := ht; have _ := h0; have _ := ho
  obtain ⟨_, h2, h3⟩ := doS_ok ((doS_iff _ _).1 hb)
  have e : spl1 f h off = _ := h3
  rw [e]
  have hd : doneG (pen0 f).F (mkCh (f.length + 1) (restN f h off)) = doneM f (restN f h off) := rfl
  rw [hd] at h2 ⊢
  unfold doneM at h2 ⊢
  split at h2
  · cases h2
  · rename_i h4
    rw [if_neg h4]
    split at h2
    · rename_i h5
      rw [if_pos h5]
      rfl
    · cases h2
theorem kids_at (hp : (nodeAt f h).parent ≠ 0) : inR f (nodeAt f h).parent ∧ 0 ≤ idx (nodeAt f (nodeAt f h).parent).kids h ∧ idx (nodeAt f (nodeAt f h).parent).kids h < (nodeAt f (nodeAt f h).parent).kids.length ∧ atI (nodeAt f (nodeAt f h).parent).kids (idx (nodeAt f (nodeAt f h).parent).kids h) = h ∧ placeP f h = idx (nodeAt f (nodeAt f h).parent).kids h := by
  have _ := hf; have _ := ht; have _ := h0; have _ := ho
  obtain ⟨hq, hm⟩ := right_mem hr hh hp
  obtain ⟨i, i0, i1, hi⟩ := mem_atI hm
  have e := idx_at (right_dup hr hq) i0 i1
  rw [hi] at e
  refine ⟨hq, by omega, by omega, by rw [e]; exact hi, by unfold placeP; omega⟩
theorem can2 (hp : (nodeAt f h).parent ≠ 0) (hw : (spl1 f h off).1.why = 0) : CanCh (spl1 f h off).1.F (inCh (f.length + 1) (nodeAt f h).parent (placeP f h + 1)) := by
  have e := ok1 hf hr hh ht h0 ho ((doS_iff _ _).2 hw)
  rw [e]
  obtain ⟨hq, i0, i1, _, hpl⟩ := kids_at hf hr hh ht h0 ho hp
  have hq1 := hq.1
  have hq2 := hq.2
  have en : nodeAt (f ++ [restN f h off]) (nodeAt f h).parent = nodeAt f (nodeAt f h).parent := by rw [node_snoc, if_neg (by omega)]
  refine .ins _ _ _ ⟨by omega, by simp⟩ ⟨hq1, by simp; omega⟩ (by omega) ?_ ?_
  · show placeP f h + 1 ≤ (nodeAt (f ++ [restN f h off]) (nodeAt f h).parent).kids.length
    rw [en]; omega
  · show (nodeAt (f ++ [restN f h off]) (f.length + 1)).parent = 0
    rw [node_snoc, if_pos rfl]
    rfl
theorem inv2 (hp : (nodeAt f h).parent ≠ 0) : InvP (spl2 f h off) := doS_inv (inv1 hf hr hh ht h0 ho) fun hw => can2 hf hr hh ht h0 ho hp hw
theorem inv3 (hp : (nodeAt f h).parent ≠ 0) : InvP (spl3 f h off) := doS_inv (inv2 hf hr hh ht h0 ho hp) fun _ => .tree _ _ _ _
theorem inv4 : InvP (spl4 f h off) := by
  unfold spl4
  split
  · rename_i hc
    exact doS_inv (inv3 hf hr hh ht h0 ho hc.2) fun _ => .spl _ _ _
  · exact inv1 hf hr hh ht h0 ho
/-- the forest ahead of the data's change. -/
theorem F4 (hw : (spl4 f h off).why = 0) : (spl1 f h off).2 = true ∧ (spl4 f h off).F = if (nodeAt f h).parent = 0 then f ++ [restN f h off] else insFM (f ++ [restN f h off]) (f.length + 1) (nodeAt f h).parent (placeP f h + 1) := by
  unfold spl4 at hw ⊢
  split at hw
  · rename_i hc
    rw [if_pos hc, if_neg hc.2]
    obtain ⟨w3, g3, e4⟩ := doS_ok hw
    obtain ⟨w2, g2, e3⟩ := doS_ok (p := spl2 f h off) w3
    obtain ⟨w1, g1, e2⟩ := doS_ok (p := (spl1 f h off).1) w2
    refine ⟨hc.1, ?_⟩
    rw [e4]
    have hs : (doneG (spl3 f h off).F (splitCh h (f.length + 1) off)).1 = (spl3 f h off).F := by
      have e : doneG (spl3 f h off).F (splitCh h (f.length + 1) off) = if ([h, (f.length : Int) + 1].all fun k => inB (spl3 f h off).F k) = true then ((spl3 f h off).F, 0) else ([], 2) := rfl
      rw [e] at g3 ⊢
      split at g3
      · rename_i h5; rw [if_pos h5]
      · cases g3
    show (doneG (spl3 f h off).F (splitCh h (f.length + 1) off)).1 = _
    rw [hs]
    have e3' : spl3 f h off = _ := congrArg Prod.fst e3
    rw [e3']
    have ht' : (doneG (spl2 f h off).F (treeCh (nodeAt f h).parent (f.length + 1) h (besideP f h 1))).1 = (spl2 f h off).F := by
      have e : doneG (spl2 f h off).F (treeCh (nodeAt f h).parent (f.length + 1) h (besideP f h 1)) = if dec (treeP (spl2 f h off).F (treeCh (nodeAt f h).parent (f.length + 1) h (besideP f h 1))) = true then ((spl2 f h off).F, 0) else ([], 2) := rfl
      rw [e] at g2 ⊢
      split at g2
      · rename_i h5; rw [if_pos h5]
      · cases g2
    show (doneG (spl2 f h off).F (treeCh (nodeAt f h).parent (f.length + 1) h (besideP f h 1))).1 = _
    rw [ht']
    have e2' : spl2 f h off = _ := congrArg Prod.fst e2
    rw [e2']
    have e1 := ok1 hf hr hh ht h0 ho hc.1
    rw [e1] at g1 ⊢
    have e : doneG (f ++ [restN f h off]) (inCh (f.length + 1) (nodeAt f h).parent (placeP f h + 1)) = doneA (f ++ [restN f h off]) (inCh (f.length + 1) (nodeAt f h).parent (placeP f h + 1)) := rfl
    show (doneG (f ++ [restN f h off]) (inCh (f.length + 1) (nodeAt f h).parent (placeP f h + 1))).1 = _
    rw [e]
    have g1 : (doneG (f ++ [restN f h off]) (inCh (f.length + 1) (nodeAt f h).parent (placeP f h + 1))).2 = 0 := g1
    rw [e] at g1
    unfold doneA at g1 ⊢
    split at g1
    · rename_i h5; rw [if_pos h5]; rfl
    · cases g1
  · rename_i hc
    rw [if_neg hc]
    have hb : (spl1 f h off).2 = true := (doS_iff _ _).2 hw
    have hp : (nodeAt f h).parent = 0 := by
      apply Classical.byContradiction
      intro h'
      exact hc ⟨hb, h'⟩
    rw [if_pos hp]
    refine ⟨hb, ?_⟩
    rw [ok1 hf hr hh ht h0 ho hb]
theorem node4 (hw : (spl4 f h off).why = 0) (k : Int) : nodeAt (spl4 f h off).F k = if (nodeAt f h).parent ≠ 0 ∧ k = (nodeAt f h).parent then { nodeAt f (nodeAt f h).parent with kids := insAt (nodeAt f (nodeAt f h).parent).kids (placeP f h + 1) (f.length + 1) } else if k = f.length + 1 then { restN f h off with parent := (nodeAt f h).parent } else nodeAt f k := by
  rw [(F4 hf hr hh ht h0 ho hw).2]
  by_cases hp : (nodeAt f h).parent = 0
  · rw [if_pos hp, if_neg (by omega), node_snoc, hp]
    rfl
  · obtain ⟨hq, i0, i1, _, hpl⟩ := kids_at hf hr hh ht h0 ho hp
    have hq1 := hq.1
    have hq2 := hq.2
    rw [if_neg hp, node_insM (f := f ++ [restN f h off]) ⟨by omega, by simp⟩ ⟨hq1, by simp; omega⟩ (by omega)]
    have en : nodeAt (f ++ [restN f h off]) (nodeAt f h).parent = nodeAt f (nodeAt f h).parent := by rw [node_snoc, if_neg (by omega)]
    rw [en]
    by_cases e1 : k = (nodeAt f h).parent
    · rw [if_pos e1, if_pos ⟨hp, e1⟩]
    · rw [if_neg e1, if_neg (show ¬ ((nodeAt f h).parent ≠ 0 ∧ k = (nodeAt f h).parent) from fun hx => e1 hx.2)]
      by_cases e2 : k = f.length + 1
      · rw [if_pos e2, if_pos e2, node_snoc, if_pos rfl]
      · rw [if_neg e2, if_neg e2, node_snoc, if_neg e2]
theorem self4 (hw : (spl4 f h off).why = 0) : nodeAt (spl4 f h off).F h = nodeAt f h ∧ inR (spl4 f h off).F h ∧ (spl4 f h off).F.length = f.length + 1 := by
  have h1 := hh.1
  have h2 := hh.2
  have hl : (spl4 f h off).F.length = f.length + 1 := by
    rw [(F4 hf hr hh ht h0 ho hw).2]
    split
    · simp
    · rw [insFM_len]; simp
  refine ⟨?_, ⟨h1, by omega⟩, hl⟩
  rw [node4 hf hr hh ht h0 ho hw, if_neg ?_, if_neg (by omega)]
  rintro ⟨hp, e⟩
  exact (text_data ht).2.1 (node_self hr hh e.symm)
theorem can5 (hw : (spl4 f h off).why = 0) (hre : (replP (nodeAt (spl4 f h off).F h).data off (restL f h off).length []).2 = 0) : CanCh (spl4 f h off).F (putC (spl4 f h off).F h off (restL f h off).length []) ∧ putC (spl4 f h off).F h off (restL f h off).length [] = daCh h off ((nodeAt f h).data.length - off) [] ∧ off ≤ 16384 := by
  obtain ⟨e, hin, hl⟩ := self4 hf hr hh ht h0 ho hw
  have hdl := (hf.at h).data
  have hre' := rest_eq f h off h0 hdl ho
  have hrl : ((restL f h off).length : Int) = (nodeAt f h).data.length - off := by rw [hre']; simp; omega
  have ep := replP_end (nodeAt f h).data off (restL f h off).length [] h0 (by omega) ho (by omega)
  rw [e, ep] at hre
  by_cases h16 : 16384 < off + (([] : List Int).length : Int)
  · rw [if_pos h16] at hre; cases hre
  · have h16' : off ≤ 16384 := by simp at h16; omega
    have ec : putC (spl4 f h off).F h off (restL f h off).length [] = daCh h off ((nodeAt f h).data.length - off) [] := by
      rw [putC_da, e, ep, if_neg h16]
      congr 1
      simp
      omega
    refine ⟨?_, ec, h16'⟩
    rw [ec]
    refine .dat _ _ _ _ hin (by rw [e]; exact (text_data ht).1) h0 (by omega) (by rw [e]; omega) (by simp) (by rw [e]; simp; omega)
theorem invQ : InvP (splQ f h off) := putS_inv (inv4 hf hr hh ht h0 ho) fun hw hre => (can5 hf hr hh ht h0 ho hw hre).1
/-- what comes of a split that is done. -/
structure SplitO (f : List Node) (h off : Int) (g : List Node) : Prop where
  fit : Fit g
  right : rightP g
  len : g.length = f.length + 1
  node : ∀ k, nodeAt g k = if k = h then { nodeAt f h with data := (nodeAt f h).data.take off.toNat } else if (nodeAt f h).parent ≠ 0 ∧ k = (nodeAt f h).parent then { nodeAt f (nodeAt f h).parent with kids := insAt (nodeAt f (nodeAt f h).parent).kids (placeP f h + 1) (f.length + 1) } else if k = f.length + 1 then { restN f h off with parent := (nodeAt f h).parent } else nodeAt f k
theorem split_out (hw : (splQ f h off).why = 0) : (spl1 f h off).2 = true ∧ SplitO f h off (splQ f h off).F ∧ (splQ f h off).L = (spl4 f h off).L ++ [daCh h off ((nodeAt f h).data.length - off) []] := by
  obtain ⟨w4, hre, hd, e⟩ := putS_ok hw
  obtain ⟨hc, ec, _⟩ := can5 hf hr hh ht h0 ho w4 hre
  obtain ⟨en, hin, hl⟩ := self4 hf hr hh ht h0 ho w4
  have hi := invQ hf hr hh ht h0 ho
  have eF : (splQ f h off).F = datF (spl4 f h off).F h ((nodeAt f h).data.take off.toNat) := by
    have e' : splQ f h off = _ := e
    rw [e']
    show (doneG (spl4 f h off).F (putC (spl4 f h off).F h off (restL f h off).length [])).1 = _
    rw [ec] at hd ⊢
    have ed : doneG (spl4 f h off).F (daCh h off ((nodeAt f h).data.length - off) []) = doneW (spl4 f h off).F h (repD (atI (spl4 f h off).F (h - 1)).data off ((nodeAt f h).data.length - off) []) := rfl
    rw [ed] at hd ⊢
    rw [← node_in hin, en, repD_end _ _ _ _ h0 (by omega) (by omega), List.append_nil] at hd ⊢
    unfold doneW at hd ⊢
    split at hd
    · rename_i h5; rw [if_pos h5]
    · cases hd
  refine ⟨(F4 hf hr hh ht h0 ho w4).1, ⟨hi.fit, hi.right, ?_, ?_⟩, ?_⟩
  · rw [eF]; unfold datF; rw [upd_len, hl]
  · intro k
    rw [eF, node_dat hin, en]
    by_cases e1 : k = h
    · rw [if_pos e1, if_pos e1]
    · rw [if_neg e1, if_neg e1, node4 hf hr hh ht h0 ho w4]
  · have e' : splQ f h off = _ := e
    rw [e', ec]
theorem splitS_of : SplitS f h off (spl1 f h off).1 (spl2 f h off) (spl3 f h off) (spl4 f h off) (splQ f h off) (spl1 f h off).2 where
  made := doS_R (inv0 hf hr hh) fun _ => can1 hf hr hh ht h0 ho
  lone := fun hc => by
    unfold spl4
    rw [if_neg]
    rintro ⟨a, b⟩
    rcases hc with hc | hc
    · rw [hc] at a; cases a
    · exact b hc
  ins := fun _ hp => ⟨_, doS_R (inv1 hf hr hh ht h0 ho) fun hw => can2 hf hr hh ht h0 ho hp hw⟩
  tree := fun _ hp => ⟨_, doS_R (inv2 hf hr hh ht h0 ho hp) fun _ => .tree _ _ _ _⟩
  spl := fun hb hp => ⟨_, by
    have := doS_R (inv3 hf hr hh ht h0 ho hp) (c := splitCh h (f.length + 1) off) fun _ => .spl _ _ _
    rw [show spl4 f h off = (doS (spl3 f h off) (splitCh h (f.length + 1) off)).1 by unfold spl4; rw [if_pos ⟨hb, hp⟩]]
    exact this⟩
  put := putS_R (inv4 hf hr hh ht h0 ho) fun hw hre => (can5 hf hr hh ht h0 ho hw hre).1
theorem len1 : (spl1 f h off).1.L.length ≤ 1 := by
  have _ := hf; have _ := hr; have _ := hh; have _ := ht; have _ := h0; have _ := ho
  have := doS_len (pen0 f) (mkCh (f.length + 1) (restN f h off)); exact this
theorem len2 : (spl2 f h off).L.length ≤ 2 := by have := doS_len (spl1 f h off).1 (inCh (f.length + 1) (nodeAt f h).parent (placeP f h + 1)); have := len1 hf hr hh ht h0 ho; unfold spl2; omega
theorem len3 : (spl3 f h off).L.length ≤ 3 := by have := doS_len (spl2 f h off) (treeCh (nodeAt f h).parent (f.length + 1) h (besideP f h 1)); have := len2 hf hr hh ht h0 ho; unfold spl3; omega
theorem len4 : (spl4 f h off).L.length ≤ 4 := by
  have := doS_len (spl3 f h off) (splitCh h (f.length + 1) off)
  have := len3 hf hr hh ht h0 ho
  have := len1 hf hr hh ht h0 ho
  unfold spl4
  split <;> omega
theorem lenQ : (splQ f h off).L.length ≤ 5 := by
  have := putS_len (spl4 f h off) h off (restL f h off).length []
  have := len4 hf hr hh ht h0 ho
  unfold splQ
  omega
end
/-- Split's answer. -/
noncomputable def splitA (f : List Node) (h off : Int) : AV :=
  if cfP f h true ≠ 0 then .tup [fav [], iav 0, .imm (.sl []), iav (cfP f h true)]
  else if ((nodeAt f h).data.length : Int) < off then .tup [fav [], iav 0, .imm (.sl []), iav 14]
  else if (splQ f h off).why ≠ 0 then .tup [fav [], iav 0, .imm (.sl []), iav (splQ f h off).why]
  else .tup [fav (splQ f h off).F, iav (f.length + 1), .imm (.sl ((splQ f h off).L.map Change.iv)), iav 0]
theorem splitA_c (f : List Node) (h off : Int) (hf : Fit f) (h0 : 0 ≤ off) (h1 : off < 4294967296) : PureC Tryz.prog 12 [fav f, iav h, u32 off] (splitA f h off) := by
  unfold splitA
  by_cases he : cfP f h true = 0
  · rw [if_neg (by omega)]
    obtain ⟨hr, hh, ht, _⟩ := cf_right he
    have ht := ht rfl
    by_cases ho : off ≤ (nodeAt f h).data.length
    · rw [if_neg (by omega)]
      have S := splitS_of hf hr hh ht h0 ho
      have hi := invQ hf hr hh ht h0 ho
      have l1 := len1 hf hr hh ht h0 ho
      have l2 := len2 hf hr hh ht h0 ho
      have l3 := len3 hf hr hh ht h0 ho
      have l4 := len4 hf hr hh ht h0 ho
      have lq := lenQ hf hr hh ht h0 ho
      have := split_c f h off _ _ _ _ _ _ hf he h0 h1 ho S (inv4 hf hr hh ht h0 ho).fit (by omega) (by omega) (by omega) (by omega) (by omega) (fun hw => by
        rw [(split_out hf hr hh ht h0 ho hw).2.2]; simp) (fun i i0 i1 => hi.chs _ (atI_mem i0 i1))
      unfold ansS at this
      by_cases hw : (splQ f h off).why = 0
      · rw [if_neg (by omega)]
        rw [if_pos hw, if_pos (split_out hf hr hh ht h0 ho hw).1] at this
        exact this
      · rw [if_pos hw]
        rw [if_neg hw] at this
        exact this
    · rw [if_pos (by omega)]
      exact splitOff_c f h off hf he h0 h1 (by omega)
  · rw [if_pos he]
    exact splitNo_c f h off hf he
end Go.Proofs.YtmhejcnaanocpaaGreat.A
namespace Go.Proofs.YtmhejcnaanocpaaGreat.A
set_option linter.unusedVariables false
set_option linter.unusedSimpArgs false
set_option maxRecDepth 100000
set_option maxHeartbeats 4000000
def cmpGo : List Int → List Int → Int
  | [], [] => 0
  | [], _ :: _ => -1
  | _ :: _, [] => 1
  | a :: u, b :: v => if a < b then -1 else if b < a then 1 else cmpGo u v
theorem cmp_zero : ∀ u v : List Int, cmpGo u v = 0 ↔ u = v
  | [], [] => by simp [cmpGo]
  | [], _ :: _ => by simp [cmpGo]
  | _ :: _, [] => by simp [cmpGo]
  | a :: u, b :: v => by
    unfold cmpGo
    by_cases h1 : a < b
    · rw [if_pos h1]
      constructor
      · intro h; omega
      · intro h; injection h with h2 h3; omega
    · rw [if_neg h1]
      by_cases h2 : b < a
      · rw [if_pos h2]
        constructor
        · intro h; omega
        · intro h; injection h with h2 h3; omega
      · rw [if_neg h2, cmp_zero u v]
        have : a = b := by omega
        subst this
        simp
theorem cmp_next (u v : List Int) {i : Int} (h0 : 0 ≤ i) (h1 : i < u.length) (h2 : i < v.length) : cmpGo (u.drop i.toNat) (v.drop i.toNat) = if atI u i < atI v i then -1 else if atI v i < atI u i then 1 else cmpGo (u.drop (i + 1).toNat) (v.drop (i + 1).toNat) := by
  rw [drop_next h0 h1, drop_next h0 h2]
  rfl
theorem cmp_l (u v : List Int) {i : Int} (h0 : 0 ≤ i) (h1 : u.length ≤ i) (h2 : i < v.length) : cmpGo (u.drop i.toNat) (v.drop i.toNat) = -1 := by
  rw [List.drop_eq_nil_of_le (by omega), drop_next h0 h2]
  rfl
theorem cmp_r (u v : List Int) {i : Int} (h0 : 0 ≤ i) (h1 : i < u.length) (h2 : v.length ≤ i) : cmpGo (u.drop i.toNat) (v.drop i.toNat) = 1 := by
  rw [show v.drop i.toNat = [] from List.drop_eq_nil_of_le (by omega), drop_next h0 h1]
  rfl
theorem cmp_e (u v : List Int) {i : Int} (h0 : 0 ≤ i) (h1 : u.length ≤ i) (h2 : v.length ≤ i) : cmpGo (u.drop i.toNat) (v.drop i.toNat) = 0 := by
  rw [show v.drop i.toNat = [] from List.drop_eq_nil_of_le (by omega), show u.drop i.toNat = [] from List.drop_eq_nil_of_le (by omega)]
  rfl
theorem compare_c (u v : List Int) (hu : u.length ≤ 1000000000) (hv : v.length ≤ 1000000000) : PureC Tryz.prog 58 [.imm (.sl (u.map u16)), .imm (.sl (v.map u16))] (iav (cmpGo u v)) := by
  have hmu : (u.map u16).length = u.length := List.length_map _
  have hmv : (v.map u16).length = v.length := List.length_map _
  refine PureC.mk tabs Tryz.func58 48 [.tmp 4] rfl rfl rfl rfl rfl ?_; intro w0 X
  (repeat' (first | ((with_reducible show AL _ _ _ _ _); first | (refine AL.step tabs rfl ?_; try dsimp only [len, List.nil_append, List.cons_append]) | refine AL.nil ?_ | (refine AL.gsplitE rfl rfl rfl (fun hc => ?_) (fun hc => ?_) <;> (fail_if_success (exact absurd hc (by decide))) <;> (try simp only [hsx] at hc) <;> (try first | (exfalso; omega) | contradiction | (exfalso; simp [dec_eq] at hc; done))) | (refine AL.op rfl (OpOK.ari64 rfl rfl rfl rfl rfl (by omega) (by omega)) ?_) | (refine AL.op rfl (OpOK.index_map tabs rfl rfl rfl rfl rfl rfl rfl (fun _ => rfl) (by decide) (by omega) (by omega)) ?_)) | ((with_reducible show DQ _ _ _ _ _ _); first | refine DQ.stepc (LS.val tabs rfl rfl rfl) rfl rfl rfl rfl rfl ?_ | refine DQ.stepc (LS.skip rfl rfl) rfl rfl rfl rfl rfl ?_ | refine DQ.nilM (by kernel_rfl) ?_ | refine DQ.stepc (LS.ari64 rfl rfl rfl rfl rfl rfl (by omega) (by omega)) rfl rfl rfl rfl rfl ?_ | refine DQ.stepc (LS.index_map tabs rfl rfl rfl rfl rfl rfl rfl rfl (fun _ => rfl) (by decide) (by omega) (by omega)) rfl rfl rfl rfl rfl ?_ | (refine DQ.gsplitE rfl rfl rfl (fun hc => ?_) (fun hc => ?_) <;> (fail_if_success (exact absurd hc (by decide))) <;> (try simp only [hsx] at hc) <;> (try first | (exfalso; omega) | contradiction | (exfalso; simp [dec_eq] at hc; done)))) | fail | refine AW.seq ?_ | refine AW.region ?_ | refine Then.norm ?_ | refine AW.skip ?_ | refine AW.block ?_ | refine InB.norm ?_ | refine AW.condT rfl ?_ | refine AW.condF rfl ?_ | (refine AW.cond rfl (fun hc => ?_) (fun hc => ?_) <;> (try simp only [hsx] at hc) <;> (try first | (exfalso; omega) | contradiction | (exfalso; simp [dec_eq] at hc; done))) | refine AW.ret ?_ | refine AW.exit ?_ | refine Then.ret ?_ | refine Then.exit ?_ | refine InB.ret ?_ | refine InB.here ?_ | refine InB.off rfl ?_ | refine Rnd.ret ?_ | refine Rnd.exit ?_ | refine AW.drawW mixed (by kernel_rfl) ?_))
  refine AW.loop (α := Int) (fun i => ⟨[(0, .imm (.sl (u.map u16))), (1, .imm (.sl (v.map u16))), (5, iav i)], []⟩) (fun i => 0 ≤ i ∧ i ≤ u.length ∧ i ≤ v.length ∧ cmpGo (u.drop i.toNat) (v.drop i.toNat) = cmpGo u v) (fun i => (u.length - i).toNat) 0 (Le.cut 0 rfl (by repeat' (first | exact trivial | refine ⟨rfl, ?_⟩)) rfl rfl (Nat.zero_le _)) ⟨by omega, by omega, by omega, rfl⟩ ?_
  intro i ⟨h0, h1, h2, h3⟩
  (repeat' (first | ((with_reducible show AL _ _ _ _ _); first | (refine AL.step tabs rfl ?_; try dsimp only [len, List.nil_append, List.cons_append]) | refine AL.nil ?_ | (refine AL.gsplitE rfl rfl rfl (fun hc => ?_) (fun hc => ?_) <;> (fail_if_success (exact absurd hc (by decide))) <;> (try simp only [hsx] at hc) <;> (try first | (exfalso; omega) | contradiction | (exfalso; simp [dec_eq] at hc; done))) | (refine AL.op rfl (OpOK.ari64 rfl rfl rfl rfl rfl (by omega) (by omega)) ?_) | (refine AL.op rfl (OpOK.index_map tabs rfl rfl rfl rfl rfl rfl rfl (fun _ => rfl) (by decide) (by omega) (by omega)) ?_)) | ((with_reducible show DQ _ _ _ _ _ _); first | refine DQ.stepc (LS.val tabs rfl rfl rfl) rfl rfl rfl rfl rfl ?_ | refine DQ.stepc (LS.skip rfl rfl) rfl rfl rfl rfl rfl ?_ | refine DQ.nilM (by kernel_rfl) ?_ | refine DQ.stepc (LS.ari64 rfl rfl rfl rfl rfl rfl (by omega) (by omega)) rfl rfl rfl rfl rfl ?_ | refine DQ.stepc (LS.index_map tabs rfl rfl rfl rfl rfl rfl rfl rfl (fun _ => rfl) (by decide) (by omega) (by omega)) rfl rfl rfl rfl rfl ?_ | (refine DQ.gsplitE rfl rfl rfl (fun hc => ?_) (fun hc => ?_) <;> (fail_if_success (exact absurd hc (by decide))) <;> (try simp only [hsx] at hc) <;> (try first | (exfalso; omega) | contradiction | (exfalso; simp [dec_eq] at hc; done)))) | refine AW.seq ?_ | refine AW.region ?_ | refine Then.norm ?_ | refine AW.skip ?_ | refine AW.block ?_ | refine InB.norm ?_ | refine AW.condT rfl ?_ | refine AW.condF rfl ?_ | (refine AW.cond rfl (fun hc => ?_) (fun hc => ?_) <;> (try simp only [hsx] at hc) <;> (try first | (exfalso; omega) | contradiction | (exfalso; simp [dec_eq] at hc; done))) | refine AW.ret ?_ | refine AW.exit ?_ | refine Then.ret ?_ | refine Then.exit ?_ | refine InB.ret ?_ | refine InB.here ?_ | refine InB.off rfl ?_ | refine Rnd.ret ?_ | refine Rnd.exit ?_ | refine AW.drawW mixed (by kernel_rfl) ?_))
  · rw [cmp_next u v h0 (by assumption) (by assumption), if_pos hc] at h3
    rw [← h3]
    exact RQ.fin rfl rfl rfl
  · rw [cmp_next u v h0 (by assumption) (by assumption), if_neg (by omega), if_pos hc] at h3
    rw [← h3]
    exact RQ.fin rfl rfl rfl
  · rw [cmp_next u v h0 (by assumption) (by assumption), if_neg (by omega), if_neg (by omega)] at h3
    exact Rnd.norm (i + 1) (Le.cut 0 rfl (by repeat' (first | exact trivial | refine ⟨rfl, ?_⟩)) rfl rfl (Nat.zero_le _)) ⟨by omega, by omega, by omega, h3⟩ (by omega)
  · rw [cmp_r u v h0 (by assumption) (by assumption)] at h3
    rw [← h3]
    exact RQ.fin rfl rfl rfl
  · rw [cmp_l u v h0 (by assumption) (by omega)] at h3
    rw [← h3]
    exact RQ.fin rfl rfl rfl
  · rw [cmp_e u v h0 (by omega) (by omega)] at h3
    rw [← h3]
    exact RQ.fin rfl rfl rfl
theorem same_c (u v : List Int) (hu : u.length ≤ 1000000000) (hv : v.length ≤ 1000000000) : PureC Tryz.prog 17 [.imm (.sl (u.map u16)), .imm (.sl (v.map u16))] (bav (dec (u = v))) := by
  have c1 := compare_c u v hu hv
  rw [show dec (u = v) = dec (cmpGo u v = 0) by rw [Bool.eq_iff_iff, dec_true, dec_true]; exact (cmp_zero u v).symm]
  refine PureC.mk tabs Tryz.func17 9 [.tmp 4] rfl rfl rfl rfl rfl ?_; intro w0 X
  (repeat' (first | ((with_reducible show AL _ _ _ _ _); first | (refine AL.step tabs rfl ?_; try dsimp only [len, List.nil_append, List.cons_append]) | refine AL.op rfl (OpOK.call rfl rfl rfl rfl c1 rfl) ?_ | refine AL.nil ?_) | refine AW.seq ?_ | refine AW.region ?_ | refine Then.norm ?_ | refine AW.skip ?_ | refine AW.ret ?_ | refine Then.ret ?_))
  exact RQ.fin rfl rfl rfl
def docN : Node := { n0 with kind := 9, doc := 1, html := true }
def rawD : List AV := [kav 9, sav es, sav es, sav es, sav es, sav es, .nils, .nils, iav 0, .nils, iav 1, iav 0, iav 0, kav 0, bav false, bav true]
def rawP (k : AV) : List AV := [kav 1, sav es, sav es, sav ⟨#[112]⟩, sav es, sav es, .nils, .nils, iav 0, k, iav 1, iav 0, iav 0, kav 0, bav false, bav false]
def rawX (s : List Int) : List AV := [kav 3, sav es, sav es, sav es, sav es, sav es, .imm (.sl (s.map u16)), .nils, iav 2, .nils, iav 1, iav 0, iav 0, kav 0, bav false, bav false]
theorem new_c : GenC Tryz.prog 91 [] [bav true] (.agg [.os 1 1]) [⟨24, 1, [[.os 1 1]]⟩, ⟨44, 16, [rawD]⟩] := by
  refine GenC.mk tabs Tryz.func91 7 [.cell 2 24] rfl rfl rfl rfl rfl ?_; intro w0 X γ κ
  (repeat' (first | ((with_reducible show AL _ _ _ _ _); first | (refine AL.step tabs rfl ?_; try dsimp only [len, List.nil_append, List.cons_append]) | refine AL.nil ?_) | refine AW.seq ?_ | refine AW.region ?_ | refine Then.norm ?_ | refine AW.skip ?_ | refine AW.ret ?_ | refine Then.ret ?_))
  exact RG.ret 2 rfl rfl rfl rfl rfl (by simp [cxG])
def pN : Node := { n0 with kind := 1, name := ⟨es, es, ⟨#[112]⟩⟩, doc := 1, kids := [3] }
def tN (s : List Int) : Node := { n0 with kind := 3, doc := 1, parent := 2, data := s }
def textF (s : List Int) : List Node := [docN, pN, tN s]
theorem text0_c (s : List Int) : PureC Tryz.prog 56 [.imm (.sl (s.map u16))] (fav (textF s)) := by
  have hr : ∀ r ∈ [rawP (.os 4 1), rawX s], r.length = 16 := by
    intro r hr
    rcases List.mem_cons.1 hr with e | hr
    · rw [e]; rfl
    · rw [List.mem_singleton.1 hr]; rfl
  have hc : ∀ c ∈ [rawP (.os 4 1), rawX s].flatten, c.cell = true := by
    have : [rawP (.os 4 1), rawX s].flatten.all AV.cell = true := rfl
    rw [List.all_eq_true] at this
    exact this
  refine PureC.mk tabs Tryz.func56 16 [.cell 2 24] rfl rfl rfl rfl rfl ?_; intro w0 X
  (repeat' (first | ((with_reducible show AL _ _ _ _ _); first | (refine AL.step tabs rfl ?_; try dsimp only [len, List.nil_append, List.cons_append]) | refine AL.callG [] 1 rfl rfl rfl rfl rfl (caps := []) rfl new_c rfl rfl rfl rfl rfl rfl rfl rfl (hpA := [⟨24, 1, [[.os 2 1]]⟩, ⟨44, 16, [rawD]⟩]) rfl (r' := .agg [.os 2 1]) rfl rfl ?_; try dsimp only [setAll, List.drop_succ_cons, List.drop_zero, List.drop_nil, List.set_cons_succ, List.set_cons_zero, List.cons_append, List.nil_append, List.append_nil, len, Nat.reduceAdd] | refine AL.ope rfl (OpOK.append_os (ie := ti44) (b := ⟨44, 16, [rawD]⟩) (rows2 := [rawP (.os 4 1), rawX s]) tabs rfl rfl rfl rfl rfl rfl rfl rfl rfl rfl (SrcA.own tabs rfl rfl rfl (b := ⟨44, 16, [rawP (.os 4 1), rawX s]⟩) rfl rfl rfl hr hc) (by simp [ti44]) (by simp)) rfl ?_ | refine AL.nil ?_) | refine AW.seq ?_ | refine AW.region ?_ | refine Then.norm ?_ | refine AW.skip ?_ | refine AW.ret ?_ | refine Then.ret ?_))
  refine RQ.ret rfl (Fz.agg (.cons (Fz.osN (b := ⟨44, 16, [rawD, rawP (.os 4 1), rawX s]⟩) (rows := (textF s).map Node.iv) (hb := rfl) (hver := ?_) (hlen := ?_) (hrl := ?_) (hr := ?_)) .nil))
  · rfl
  · rfl
  · intro r hr
    obtain ⟨n, _, rfl⟩ := List.mem_map.1 hr
    rfl
  repeat' (first | exact All2.nil | refine All2.cons ?_ ?_)
  all_goals first
    | exact FzI.imm _
    | exact FzI.of (Fz.cv rfl)
    | (refine FzI.of (Fz.os (hb := rfl) (hver := ?_) (hr := ?_)) <;> rfl)
end Go.Proofs.YtmhejcnaanocpaaGreat.A
namespace Go.Proofs.YtmhejcnaanocpaaGreat.A
set_option linter.unusedVariables false
set_option linter.unusedSimpArgs false
set_option maxRecDepth 100000
set_option maxHeartbeats 4000000
theorem dec_dec (p : Prop) [Decidable p] : dec p = decide p := dec_eq p
/-- rightP, node by node. -/
theorem right_of {f : List Node} (h : f.length ≤ 4096) (h2 : ∀ j : Nat, j < f.length → okP f (j : Int) (atI f j)) : rightP f := ⟨h, fun i h0 h1 => by
  have := h2 i.toNat (by omega)
  rw [show ((i.toNat : Nat) : Int) = i by omega] at this
  exact this⟩
theorem sz0 : (⟨#[]⟩ : ByteArray).size = 0 := rfl
theorem szp : (⟨#[112]⟩ : ByteArray).size = 1 := rfl
def p2 (ks : List Int) : Node := { pN with kids := ks }
def xN (r : List Int) (p : Int) : Node := { n0 with kind := 3, doc := 1, parent := p, data := r }
def text4 (s r : List Int) (ks : List Int) (p : Int) : List Node := [docN, p2 ks, tN s, xN r p]
theorem text_right (s : List Int) (hs : s.length ≤ 16384) : rightP (textF s) := by
  have hr := hs
  refine right_of (by simp [textF]) fun j hj => ?_
  have hj' : j < 3 := hj
  match j, hj' with
  | 0, _ =>
    refine ⟨?_, ?_, 1, ?_⟩
    · simp [madeP, m11, m27, m50, m77, m100, m200, textF, docN, pN, p2, tN, xN, atI, n0, traitsOf, namingB, namedB, shortB, attrsB, attrsGo, es, sz0, szp, dec_dec] <;> omega
    · simp [linksP, l1, l2, l3, l4, kidsB, kidsGo, famB, famGo, nodeAt, inB, cntB, textF, docN, pN, p2, tN, xN, atI, n0, dec_dec]
    · simp [inR, itN, upN, aboveOf, textF, docN, pN, p2, tN, xN, atI, n0]
  | 1, _ =>
    refine ⟨?_, ?_, 1, ?_⟩
    · simp [madeP, m11, m27, m50, m77, m100, m200, textF, docN, pN, p2, tN, xN, atI, n0, traitsOf, namingB, namedB, shortB, attrsB, attrsGo, es, sz0, szp, dec_dec] <;> omega
    · simp [linksP, l1, l2, l3, l4, kidsB, kidsGo, famB, famGo, nodeAt, inB, cntB, textF, docN, pN, p2, tN, xN, atI, n0, dec_dec]
    · simp [inR, itN, upN, aboveOf, textF, docN, pN, p2, tN, xN, atI, n0]
  | 2, _ =>
    refine ⟨?_, ?_, 2, ?_⟩
    · simp [madeP, m11, m27, m50, m77, m100, m200, textF, docN, pN, p2, tN, xN, atI, n0, traitsOf, namingB, namedB, shortB, attrsB, attrsGo, es, sz0, szp, dec_dec] <;> omega
    · simp [linksP, l1, l2, l3, l4, kidsB, kidsGo, famB, famGo, nodeAt, inB, cntB, textF, docN, pN, p2, tN, xN, atI, n0, dec_dec]
    · simp [inR, itN, upN, aboveOf, textF, docN, pN, p2, tN, xN, atI, n0]
theorem text4_right (s r : List Int) (hs : s.length ≤ 16384) (hr : r.length ≤ 16384) : rightP (text4 s r [3, 4] 2) := by
  refine right_of (by simp [text4]) fun j hj => ?_
  have hj' : j < 4 := hj
  match j, hj' with
  | 0, _ =>
    refine ⟨?_, ?_, 1, ?_⟩
    · simp [madeP, m11, m27, m50, m77, m100, m200, text4, docN, pN, p2, tN, xN, atI, n0, traitsOf, namingB, namedB, shortB, attrsB, attrsGo, es, sz0, szp, dec_dec] <;> omega
    · simp [linksP, l1, l2, l3, l4, kidsB, kidsGo, famB, famGo, nodeAt, inB, cntB, text4, docN, pN, p2, tN, xN, atI, n0, dec_dec]
    · simp [inR, itN, upN, aboveOf, text4, docN, pN, p2, tN, xN, atI, n0]
  | 1, _ =>
    refine ⟨?_, ?_, 1, ?_⟩
    · simp [madeP, m11, m27, m50, m77, m100, m200, text4, docN, pN, p2, tN, xN, atI, n0, traitsOf, namingB, namedB, shortB, attrsB, attrsGo, es, sz0, szp, dec_dec] <;> omega
    · simp [linksP, l1, l2, l3, l4, kidsB, kidsGo, famB, famGo, nodeAt, inB, cntB, text4, docN, pN, p2, tN, xN, atI, n0, dec_dec]
    · simp [inR, itN, upN, aboveOf, text4, docN, pN, p2, tN, xN, atI, n0]
  | 2, _ =>
    refine ⟨?_, ?_, 2, ?_⟩
    · simp [madeP, m11, m27, m50, m77, m100, m200, text4, docN, pN, p2, tN, xN, atI, n0, traitsOf, namingB, namedB, shortB, attrsB, attrsGo, es, sz0, szp, dec_dec] <;> omega
    · simp [linksP, l1, l2, l3, l4, kidsB, kidsGo, famB, famGo, nodeAt, inB, cntB, text4, docN, pN, p2, tN, xN, atI, n0, dec_dec]
    · simp [inR, itN, upN, aboveOf, text4, docN, pN, p2, tN, xN, atI, n0]
  | 3, _ =>
    refine ⟨?_, ?_, 2, ?_⟩
    · simp [madeP, m11, m27, m50, m77, m100, m200, text4, docN, pN, p2, tN, xN, atI, n0, traitsOf, namingB, namedB, shortB, attrsB, attrsGo, es, sz0, szp, dec_dec] <;> omega
    · simp [linksP, l1, l2, l3, l4, kidsB, kidsGo, famB, famGo, nodeAt, inB, cntB, text4, docN, pN, p2, tN, xN, atI, n0, dec_dec]
    · simp [inR, itN, upN, aboveOf, text4, docN, pN, p2, tN, xN, atI, n0]
theorem text40_right (s r : List Int) (hs : s.length ≤ 16384) (hr : r.length ≤ 16384) : rightP (text4 s r [3] 0) := by
  refine right_of (by simp [text4]) fun j hj => ?_
  have hj' : j < 4 := hj
  match j, hj' with
  | 0, _ =>
    refine ⟨?_, ?_, 1, ?_⟩
    · simp [madeP, m11, m27, m50, m77, m100, m200, text4, docN, pN, p2, tN, xN, atI, n0, traitsOf, namingB, namedB, shortB, attrsB, attrsGo, es, sz0, szp, dec_dec] <;> omega
    · simp [linksP, l1, l2, l3, l4, kidsB, kidsGo, famB, famGo, nodeAt, inB, cntB, text4, docN, pN, p2, tN, xN, atI, n0, dec_dec]
    · simp [inR, itN, upN, aboveOf, text4, docN, pN, p2, tN, xN, atI, n0]
  | 1, _ =>
    refine ⟨?_, ?_, 1, ?_⟩
    · simp [madeP, m11, m27, m50, m77, m100, m200, text4, docN, pN, p2, tN, xN, atI, n0, traitsOf, namingB, namedB, shortB, attrsB, attrsGo, es, sz0, szp, dec_dec] <;> omega
    · simp [linksP, l1, l2, l3, l4, kidsB, kidsGo, famB, famGo, nodeAt, inB, cntB, text4, docN, pN, p2, tN, xN, atI, n0, dec_dec]
    · simp [inR, itN, upN, aboveOf, text4, docN, pN, p2, tN, xN, atI, n0]
  | 2, _ =>
    refine ⟨?_, ?_, 2, ?_⟩
    · simp [madeP, m11, m27, m50, m77, m100, m200, text4, docN, pN, p2, tN, xN, atI, n0, traitsOf, namingB, namedB, shortB, attrsB, attrsGo, es, sz0, szp, dec_dec] <;> omega
    · simp [linksP, l1, l2, l3, l4, kidsB, kidsGo, famB, famGo, nodeAt, inB, cntB, text4, docN, pN, p2, tN, xN, atI, n0, dec_dec]
    · simp [inR, itN, upN, aboveOf, text4, docN, pN, p2, tN, xN, atI, n0]
  | 3, _ =>
    refine ⟨?_, ?_, 1, ?_⟩
    · simp [madeP, m11, m27, m50, m77, m100, m200, text4, docN, pN, p2, tN, xN, atI, n0, traitsOf, namingB, namedB, shortB, attrsB, attrsGo, es, sz0, szp, dec_dec] <;> omega
    · simp [linksP, l1, l2, l3, l4, kidsB, kidsGo, famB, famGo, nodeAt, inB, cntB, text4, docN, pN, p2, tN, xN, atI, n0, dec_dec]
    · simp [inR, itN, upN, aboveOf, text4, docN, pN, p2, tN, xN, atI, n0]
theorem fit_of {f : List Node} (h : f.length ≤ 1000000000) (h2 : ∀ n ∈ f, n.data.length ≤ 100000 ∧ n.attrs.length ≤ 10 ∧ n.kids.length ≤ 10) : Fit f := ⟨h, fun n hn => by
  obtain ⟨a, b, c⟩ := h2 n hn
  exact ⟨by omega, by omega, by omega⟩⟩
theorem text_fit (s : List Int) (hs : s.length ≤ 16384) : Fit (textF s) := fit_of (by simp [textF]) (by simp [textF, docN, pN, tN, n0]; omega)
theorem cf0 {f : List Node} {h : Int} {b : Bool} (hr : rightP f) (hh : inR f h) (hd : dataB (nodeAt f h).kind) (ht : b = true → textB (nodeAt f h).kind) : cfP f h b = 0 := by
  have hfa : faultR f [h] = 0 := by
    unfold faultR
    rw [if_pos (by rw [dec_true]; exact hr), if_pos (by simpa using inB_R.2 hh)]
  unfold cfP
  rw [hfa, if_neg (by omega), if_neg]
  rintro (h1 | ⟨h1, h2⟩)
  · rw [dec_false] at h1; exact h1 hd
  · rw [dec_false] at h2; exact h2 (ht h1)
def abc : List Int := [97, 98, 99]
theorem text_cf (s : List Int) (hs : s.length ≤ 16384) (b : Bool) : cfP (textF s) 3 b = 0 := cf0 (text_right s hs) (by simp [inR, textF]) (.inl (.inl rfl)) (fun _ => .inl rfl)
theorem lives_rep : ∃ L : List Change, L.length = 1 ∧ PureC Tryz.prog 19 [fav (textF abc), iav 3, u32 1, u32 9, .imm (.sl (([120] : List Int).map u16))] (.tup [fav (textF [97, 120]), .imm (.sl (L.map Change.iv)), iav 0]) := by
  have hf := text_fit abc (by decide)
  have hr := text_right abc (by decide)
  have hin : inR (textF abc) 3 := by simp [inR, textF]
  have hi := inv0 hf hr hin
  have hcf := text_cf abc (by decide) false
  have ep : replP (nodeAt (textF abc) 3).data 1 9 [120] = ([97, 120], 0) := by decide
  have ec : putC (textF abc) 3 1 9 [120] = daCh 3 1 2 [120] := by
    rw [putC_da, ep]
    rfl
  have hcan : CanCh (textF abc) (daCh 3 1 2 [120]) := .dat _ _ _ _ hin (by decide) (by omega) (by omega) (by decide) (by decide) (by decide)
  have hd : doneG (textF abc) (daCh 3 1 2 [120]) = (textF [97, 120], 0) := by
    rw [show doneG (textF abc) (daCh 3 1 2 [120]) = doneW (textF abc) 3 [97, 120] from rfl]
    unfold doneW
    rw [show datF (textF abc) 3 [97, 120] = textF [97, 120] from rfl, if_pos (by rw [dec_true]; exact text_right _ (by decide))]
  obtain ⟨b, hb⟩ := putS_R (p := pen0 (textF abc)) (h := 3) (off := 1) (cnt := 9) (v := [120]) hi (fun _ _ => by rw [show (pen0 (textF abc)).F = textF abc from rfl, ec]; exact hcan)
  have eq : putS (pen0 (textF abc)) 3 1 9 [120] = ⟨textF [97, 120], [daCh 3 1 2 [120]], 0⟩ := by
    unfold putS doS
    rw [show (pen0 (textF abc)).F = textF abc from rfl, ep, ec, hd, if_neg (by simp), if_neg (by simp [pen0]), if_neg (by simp)]
    rfl
  have := replace_c (textF abc) _ b 3 [120] 1 9 hf (by omega) (by omega) (by omega) (by omega) (by simp) (fun _ => hb)
  rw [eq, hcf] at this
  unfold ansP at this
  rw [if_neg (by omega), if_neg (by simp)] at this
  exact ⟨_, rfl, this⟩
theorem lives_spl : ∃ (g : List Node) (L : List Change), g.length = 4 ∧ (nodeAt g 4).data = [98, 99] ∧ L.length = 5 ∧ PureC Tryz.prog 12 [fav (textF abc), iav 3, u32 1] (.tup [fav g, iav 4, .imm (.sl (L.map Change.iv)), iav 0]) := by
  have hf := text_fit abc (by decide)
  have hr := text_right abc (by decide)
  have hin : inR (textF abc) 3 := by simp [inR, textF]
  have hcf := text_cf abc (by decide) true
  have ht : textB (nodeAt (textF abc) 3).kind := .inl rfl
  have ho : (1 : Int) ≤ (nodeAt (textF abc) 3).data.length := by decide
  have e1 : spl1 (textF abc) 3 1 = (⟨text4 abc [98, 99] [3] 0, [mkCh 4 (restN (textF abc) 3 1)], 0⟩, true) := by
    unfold spl1 doS
    rw [if_neg (by simp [pen0])]
    have hd : doneG (pen0 (textF abc)).F (mkCh ((textF abc).length + 1) (restN (textF abc) 3 1)) = (text4 abc [98, 99] [3] 0, 0) := by
      rw [show doneG (pen0 (textF abc)).F (mkCh ((textF abc).length + 1) (restN (textF abc) 3 1)) = doneM (textF abc) (restN (textF abc) 3 1) from rfl]
      unfold doneM
      rw [if_neg (by simp [textF]), show textF abc ++ [restN (textF abc) 3 1] = text4 abc [98, 99] [3] 0 from rfl, if_pos (by rw [dec_true]; exact text40_right _ _ (by decide) (by decide))]
    rw [hd, if_neg (by simp)]
    rfl
  have e2 : spl2 (textF abc) 3 1 = ⟨text4 abc [98, 99] [3, 4] 2, [mkCh 4 (restN (textF abc) 3 1), inCh 4 2 1], 0⟩ := by
    unfold spl2 doS
    rw [e1, if_neg (by simp)]
    have hd : doneG (text4 abc [98, 99] [3] 0) (inCh ((textF abc).length + 1) (nodeAt (textF abc) 3).parent (placeP (textF abc) 3 + 1)) = (text4 abc [98, 99] [3, 4] 2, 0) := by
      rw [show doneG (text4 abc [98, 99] [3] 0) (inCh ((textF abc).length + 1) (nodeAt (textF abc) 3).parent (placeP (textF abc) 3 + 1)) = doneA (text4 abc [98, 99] [3] 0) (inCh 4 2 1) from rfl]
      unfold doneA
      rw [show insFM (text4 abc [98, 99] [3] 0) (inCh 4 2 1).node (inCh 4 2 1).parent (inCh 4 2 1).index = text4 abc [98, 99] [3, 4] 2 from rfl, if_pos (by rw [dec_true]; exact text4_right _ _ (by decide) (by decide))]
    simp only
    rw [hd, if_neg (by simp)]
    rfl
  have e3 : spl3 (textF abc) 3 1 = ⟨text4 abc [98, 99] [3, 4] 2, [mkCh 4 (restN (textF abc) 3 1), inCh 4 2 1, treeCh 2 4 3 0], 0⟩ := by
    unfold spl3 doS
    rw [e2, if_neg (by simp)]
    have hd : doneG (text4 abc [98, 99] [3, 4] 2) (treeCh (nodeAt (textF abc) 3).parent ((textF abc).length + 1) 3 (besideP (textF abc) 3 1)) = (text4 abc [98, 99] [3, 4] 2, 0) := by
      rw [show besideP (textF abc) 3 1 = 0 by unfold besideP; rw [if_neg (by decide), if_pos (.inr (by decide))]]
      rw [show doneG (text4 abc [98, 99] [3, 4] 2) (treeCh (nodeAt (textF abc) 3).parent ((textF abc).length + 1) 3 0) = if dec (treeP (text4 abc [98, 99] [3, 4] 2) (treeCh 2 4 3 0)) = true then (text4 abc [98, 99] [3, 4] 2, 0) else ([], 2) from rfl]
      rw [if_pos]
      rw [dec_true]
      exact ⟨rfl, rfl, rfl, .inr rfl, .inl rfl⟩
    simp only
    rw [hd, if_neg (by simp)]
    rw [show besideP (textF abc) 3 1 = 0 by unfold besideP; rw [if_neg (by decide), if_pos (.inr (by decide))]]
    rfl
  have e4 : spl4 (textF abc) 3 1 = ⟨text4 abc [98, 99] [3, 4] 2, [mkCh 4 (restN (textF abc) 3 1), inCh 4 2 1, treeCh 2 4 3 0, splitCh 3 4 1], 0⟩ := by
    unfold spl4
    rw [if_pos ⟨by rw [e1], by decide⟩]
    unfold doS
    rw [e3, if_neg (by simp)]
    have hd : doneG (text4 abc [98, 99] [3, 4] 2) (splitCh 3 ((textF abc).length + 1) 1) = (text4 abc [98, 99] [3, 4] 2, 0) := rfl
    simp only
    rw [hd, if_neg (by simp)]
    rfl
  have eq : splQ (textF abc) 3 1 = ⟨text4 [97] [98, 99] [3, 4] 2, [mkCh 4 (restN (textF abc) 3 1), inCh 4 2 1, treeCh 2 4 3 0, splitCh 3 4 1, daCh 3 1 2 []], 0⟩ := by
    unfold splQ putS
    rw [e4]
    have ep : replP (nodeAt (text4 abc [98, 99] [3, 4] 2) 3).data 1 (restL (textF abc) 3 1).length [] = ([97], 0) := by decide
    simp only
    rw [ep, if_neg (by simp)]
    have ec : putC (text4 abc [98, 99] [3, 4] 2) 3 1 (restL (textF abc) 3 1).length [] = daCh 3 1 2 [] := by
      rw [putC_da, ep]
      rfl
    rw [ec]
    unfold doS
    rw [if_neg (by simp)]
    have hd : doneG (text4 abc [98, 99] [3, 4] 2) (daCh 3 1 2 []) = (text4 [97] [98, 99] [3, 4] 2, 0) := by
      rw [show doneG (text4 abc [98, 99] [3, 4] 2) (daCh 3 1 2 []) = doneW (text4 abc [98, 99] [3, 4] 2) 3 [97] from rfl]
      unfold doneW
      rw [show datF (text4 abc [98, 99] [3, 4] 2) 3 [97] = text4 [97] [98, 99] [3, 4] 2 from rfl, if_pos (by rw [dec_true]; exact text4_right _ _ (by decide) (by decide))]
    simp only
    rw [hd, if_neg (by simp)]
    rfl
  have := splitA_c (textF abc) 3 1 hf (by omega) (by omega)
  unfold splitA at this
  rw [hcf, if_neg (by omega), if_neg (by omega), eq, if_neg (by simp)] at this
  exact ⟨_, _, rfl, rfl, rfl, this⟩
theorem lives_who : PureC Tryz.prog 18 [fav (textF [97]), iav 3] (.tup [.imm (.sl (([97] : List Int).map u16)), iav 0]) := by
  have := whole1_c (textF [97]) 3 (text_fit _ (by decide)) (text_cf _ (by decide) true) (by decide)
  rw [show wholeP (textF [97]) 3 = [97] by
    unfold wholeP
    rw [if_neg (by decide)]
    have e : idx (nodeAt (textF [97]) (nodeAt (textF [97]) 3).parent).kids 3 = 0 := by decide
    rw [e]
    have t3 : txt (textF [97]) 3 = true := by unfold txt; rw [dec_true]; exact .inl rfl
    rw [show (nodeAt (textF [97]) (nodeAt (textF [97]) 3).parent).kids = [3] from rfl]
    simp [leftN, runGo, t3]
    rfl] at this
  exact this
end Go.Proofs.YtmhejcnaanocpaaGreat.A
namespace Go.Proofs.YtmhejcnaanocpaaGreat.A
set_option linter.unusedVariables false
set_option linter.unusedSimpArgs false
set_option maxRecDepth 100000
set_option maxHeartbeats 4000000
theorem lives_c : PureC Tryz.prog 14 [] (bav true) := by
  obtain ⟨L1, hL1, r1⟩ := lives_rep
  obtain ⟨g, L2, hg, hd, hL2, r2⟩ := lives_spl
  have r3 := lives_who
  have t1 := text0_c abc
  have t2 := text0_c [97]
  have hgm : (g.map Node.iv).length = 4 := by rw [List.length_map, hg]
  have hm1 : (L1.map Change.iv).length = 1 := by rw [List.length_map, hL1]
  have hm2 : (L2.map Change.iv).length = 5 := by rw [List.length_map, hL2]
  have hg3 : (atI g 3).data = [98, 99] := by
    rw [← hd, node_in ⟨by omega, by omega⟩]
    rfl
  have s1 := same_c [97, 120] [97, 120] (by simp) (by simp)
  have s2 := same_c (atI g 3).data [98, 99] (by rw [hg3]; simp) (by simp)
  rw [show dec (([97, 120] : List Int) = [97, 120]) = true by rw [dec_true]] at s1
  rw [show dec ((atI g 3).data = [98, 99]) = true by rw [dec_true]; exact hg3] at s2
  have ht3 : (textF [97, 120]).length = 3 := rfl
  have hx2 : (atI (textF [97, 120]) 2).data = [97, 120] := rfl
  have hm3 : ((textF [97, 120]).map Node.iv).length = 3 := rfl
  refine PureC.mk tabs Tryz.func14 89 [.tmp 0] rfl rfl rfl rfl rfl ?_; intro w0 X
  (repeat' (first | ((with_reducible show AL _ _ _ _ _); first | refine AL.give 0 (h1 := []) (env1 := [(11, .imm (.sl (abc.map u16)))]) (abc.map u16) rfl rfl ⟨⟨_, rfl, rfl⟩, trivial⟩ rfl rfl rfl (Nat.zero_le _) ?_ | refine AL.give 0 (h1 := []) (env1 := [(12, fav (textF abc)), (13, .imm (.sl (([120] : List Int).map u16)))]) (([120] : List Int).map u16) rfl rfl ⟨⟨_, rfl, rfl⟩, ⟨_, rfl, rfl⟩, trivial⟩ rfl rfl rfl (Nat.zero_le _) ?_ | refine AL.give 1 (h1 := [⟨24, 1, [[.imm (.sl ((textF [97, 120]).map Node.iv))]]⟩]) (env1 := [(1, .ptr 0 1 0 0), (2, .imm (.sl ((L1).map Change.iv))), (3, iav 0), (19, .imm (.sl (abc.map u16)))]) (abc.map u16) rfl rfl ⟨⟨_, rfl, rfl⟩, ⟨_, rfl, rfl⟩, ⟨_, rfl, rfl⟩, ⟨_, rfl, rfl⟩, trivial⟩ rfl rfl rfl (Nat.zero_le _) ?_ | refine AL.give 2 (h1 := [⟨24, 1, [[.imm (.sl ((textF [97, 120]).map Node.iv))]]⟩, ⟨24, 1, [[.imm (.sl ((g).map Node.iv))]]⟩]) (env1 := [(1, .ptr 0 1 0 0), (2, .imm (.sl ((L1).map Change.iv))), (3, iav 0), (4, .ptr 1 1 0 0), (5, iav 4), (6, .imm (.sl ((L2).map Change.iv))), (7, iav 0), (27, .imm (.sl (([97] : List Int).map u16)))]) (([97] : List Int).map u16) rfl rfl ⟨⟨_, rfl, rfl⟩, ⟨_, rfl, rfl⟩, ⟨_, rfl, rfl⟩, ⟨_, rfl, rfl⟩, ⟨_, rfl, rfl⟩, ⟨_, rfl, rfl⟩, ⟨_, rfl, rfl⟩, ⟨_, rfl, rfl⟩, trivial⟩ rfl rfl rfl (Nat.zero_le _) ?_ | (refine AL.step tabs rfl ?_; try dsimp only [len, List.nil_append, List.cons_append]) | refine AL.op rfl (OpOK.call rfl rfl rfl rfl t1 rfl) ?_ | refine AL.op rfl (OpOK.call rfl rfl rfl rfl t2 rfl) ?_ | refine AL.op rfl (OpOK.callfz rfl rfl rfl rfl s1 rfl rfl) ?_ | refine AL.op rfl (OpOK.callfz rfl rfl rfl rfl s2 rfl rfl) ?_ | refine AL.op rfl (OpOK.call rfl rfl rfl rfl r1 rfl) ?_ | refine AL.op rfl (OpOK.call rfl rfl rfl rfl r2 rfl) ?_ | refine AL.op rfl (OpOK.call rfl rfl rfl rfl r3 rfl) ?_ | refine AL.nil ?_ | (refine AL.gsplitE rfl rfl rfl (fun hc => ?_) (fun hc => ?_) <;> (fail_if_success (exact absurd hc (by decide))) <;> (try simp only [hsx] at hc) <;> (try first | (exfalso; omega) | contradiction | (exfalso; simp [dec_eq] at hc; done))) | (refine AL.op rfl (OpOK.index_map tabs rfl rfl rfl rfl rfl rfl rfl (fun _ => rfl) (by decide) (by omega) (by omega)) ?_)) | refine AW.seq ?_ | refine AW.region ?_ | refine Then.norm ?_ | refine AW.skip ?_ | refine AW.condT rfl ?_ | refine AW.condF rfl ?_ | (refine AW.cond rfl (fun hc => ?_) (fun hc => ?_) <;> (try simp only [hsx] at hc) <;> (try first | (exfalso; omega) | contradiction | (exfalso; simp [dec_eq] at hc; done))) | refine AW.ret ?_ | refine Then.ret ?_))
  refine RQ.fin rfl rfl (congrArg bav ?_); simp [dec_eq]
end Go.Proofs.YtmhejcnaanocpaaGreat.A
namespace Go.Proofs.YtmhejcnaanocpaaGreat.A
open Go.RowKit
set_option linter.unusedVariables false
set_option linter.unusedSimpArgs false
section
variable {C : Cx} {s : St} {o : Oper} {T : List (Nat × TI)} {l : List Oper}
theorem LS.lit0 (hT : TsOK C.P T) (hw : awant l s o = some true) (hd : dok C.nt o.dst = true) {t e : TypeId} {ps : Array (Nat × Operand)} (ho : o.op = .buildSlice t 0 ps) (hp : ps.toList = []) {i ie : TI} (hi : look T t = some i) (hk : i.kd = .sl e) (hie : look T e = some ie) : LS C l s o (mkFx l s o (.val .nocap) []) :=
  LS.quiet [] hw fun s' hl => OpOK.lit0 hT hd ho hp hi hk hie
end
end Go.Proofs.YtmhejcnaanocpaaGreat.A
namespace Go.Proofs.YtmhejcnaanocpaaGreat.A
set_option linter.unusedVariables false
set_option linter.unusedSimpArgs false
set_option maxRecDepth 100000
set_option maxHeartbeats 4000000
section
variable {f g : List Node} {h off : Int} (hr : rightP f) (hh : inR f h) (ht : textB (nodeAt f h).kind) (h0 : 0 ≤ off) (ho : off ≤ (nodeAt f h).data.length) (hdl : (nodeAt f h).data.length ≤ 1000000000) (S : SplitO f h off g)
include hr hh ht h0 ho hdl S
end
end Go.Proofs.YtmhejcnaanocpaaGreat.A
