/- A pen's steps as functions; what chardata.Split answers, in plain words. -/
import Derived.Test.YtmhejcnaanocpaaGreatXAskGrpAW
import Derived.Test.YtmhejcnaanocpaaGreatXAskGrpAV
import Derived.Test.YtmhejcnaanocpaaGreatXAskGrpAK
import Derived.Test.YtmhejcnaanocpaaGreatXAskGrpAI
namespace Go.Proofs.YtmhejcnaanocpaaGreat.A
set_option linter.unusedVariables false
set_option linter.unusedSimpArgs false
set_option maxRecDepth 100000
set_option maxHeartbeats 4000000
noncomputable def doS (p : PS) (c : Change) : PS × Bool :=
  if p.why ≠ 0 then (p, false) else if (doneG p.F c).2 ≠ 0 then (⟨p.F, p.L, (doneG p.F c).2⟩, false) else (⟨(doneG p.F c).1, p.L ++ [c], 0⟩, true)
noncomputable def putS (p : PS) (h off cnt : Int) (v : List Int) : PS :=
  if (replP (nodeAt p.F h).data off cnt v).2 ≠ 0 then refP p (replP (nodeAt p.F h).data off cnt v).2 else (doS p (putC p.F h off cnt v)).1
structure InvP (p : PS) : Prop where
  fit : Fit p.F
  right : rightP p.F
  pos : 0 < p.F.length
  chs : ∀ c ∈ p.L, FitC c
theorem qic (f : List Node) {x p i : Int} (hf : Fit f) (hr : rightP f) (hx : inR f x) (hp : inR f p) (i0 : 0 ≤ i) (i1 : i ≤ (nodeAt f p).kids.length) : Fit (insFM f x p i) := by
  have hfew := qcd hr p
  rw [qaf hp] at hfew i1
  exact qfy f (inCh x p i) hf hx.1 hx.2 hp.1 hp.2 i0 i1 (by show (atI f (p - 1)).kids.length < _; omega)
theorem qlu {f : List Node} {c : Change} (hf : Fit f) (hr : rightP f) (h0 : 0 < f.length) (hc : CanCh f c) (hw : (doneG f c).2 = 0) : Fit (doneG f c).1 ∧ rightP (doneG f c).1 ∧ f.length ≤ (doneG f c).1.length ∧ FitC c := by
  cases hc with
  | mk n hn h12 =>
    rw [show doneG f (mkCh (f.length + 1) n) = doneM f n from rfl] at hw ⊢
    unfold doneM at hw ⊢
    by_cases h1 : 4096 ≤ f.length
    · rw [if_pos h1] at hw; cases hw
    · rw [if_neg h1] at hw ⊢
      split at hw
      · rename_i h2
        rw [if_pos h2]
        rw [qb] at h2
        exact ⟨hf.snoc (by omega) hn, h2, by simp, ⟨by simp [mkCh, c0], hn, by simp [mkCh, c0], by simp [mkCh, c0]⟩⟩
      · cases hw
  | ins x p i hx hp i0 i1 hp0 =>
    rw [show doneG f (inCh x p i) = doneA f (inCh x p i) from rfl] at hw ⊢
    unfold doneA at hw ⊢
    split at hw
    · rename_i h2
      rw [if_pos h2]
      rw [qb] at h2
      exact ⟨qic f hf hr hx hp i0 i1, h2, by rw [qbv]; exact Nat.le_refl _, ⟨by simp [inCh, c0], fit0, by simp [inCh, c0], by simp [inCh, c0]⟩⟩
    · cases hw
  | dat h off cnt v hh hd o0 c0' oc hv ho =>
    rw [show doneG f (daCh h off cnt v) = doneW f h (repD (atI f (h - 1)).data off cnt v) from rfl] at hw ⊢
    unfold doneW at hw ⊢
    split at hw
    · rename_i h2
      rw [if_pos h2]
      rw [qb] at h2
      have h1 := hh.1
      have h3 := hh.2
      have := hf.atI (h - 1) (by omega) (by omega)
      refine ⟨qct hf ⟨?_, this.attrs, this.kids⟩, h2, by unfold datF; rw [qb4]; exact Nat.le_refl _, ⟨by show v.length ≤ _; omega, fit0, by simp [daCh, c0], by simp [daCh, c0]⟩⟩
      rw [qaf hh] at oc ho
      unfold repD
      simp only [List.length_append, List.length_take, List.length_drop]
      omega
    · cases hw
  | spl a b c =>
    rw [show doneG f (splitCh a b c) = (if ([a, b].all fun h => inB f h) = true then (f, 0) else ([], 2)) from rfl] at hw ⊢
    split at hw
    · rename_i h2
      rw [if_pos h2]
      exact ⟨hf, hr, Nat.le_refl _, ⟨by simp [splitCh, c0], fit0, by simp [splitCh, c0], by simp [splitCh, c0]⟩⟩
    · cases hw
  | tree a b c d =>
    rw [show doneG f (treeCh a b c d) = (if dec (treeP f (treeCh a b c d)) = true then (f, 0) else ([], 2)) from rfl] at hw ⊢
    split at hw
    · rename_i h2
      rw [if_pos h2]
      exact ⟨hf, hr, Nat.le_refl _, ⟨by simp [treeCh, c0], fit0, by simp [treeCh], by simp [treeCh, c0]⟩⟩
    · cases hw
theorem qj0 {p : PS} {c : Change} (hp : InvP p) (hc : p.why = 0 → CanCh p.F c) : DoR p c (doS p c).1 (doS p c).2 := by
  unfold doS
  by_cases h0 : p.why = 0
  · rw [if_neg (by omega)]
    have hd := qnq p.F _ c _ hp.fit hp.right (qnx p.F c hp.fit hp.right hp.pos (hc h0))
    by_cases hw : (doneG p.F c).2 = 0
    · rw [if_neg (by omega)]
      rw [hw] at hd
      exact .ok p c _ h0 hd
    · rw [if_pos hw]
      exact .bad p c _ _ h0 hw hd
  · rw [if_pos h0]
    exact .stop p c h0
theorem qd7 {p : PS} {c : Change} (hp : InvP p) (hc : p.why = 0 → CanCh p.F c) : InvP (doS p c).1 := by
  unfold doS
  by_cases h0 : p.why = 0
  · rw [if_neg (by omega)]
    by_cases hw : (doneG p.F c).2 = 0
    · rw [if_neg (by omega)]
      obtain ⟨h1, h2, h3, h4⟩ := qlu hp.fit hp.right hp.pos (hc h0) hw
      exact ⟨h1, h2, Nat.lt_of_lt_of_le hp.pos h3, fun d hd => by
        rcases List.mem_append.1 hd with h | h
        · exact hp.chs d h
        · rw [List.mem_singleton] at h; subst h; exact h4⟩
    · rw [if_pos hw]
      exact ⟨hp.fit, hp.right, hp.pos, hp.chs⟩
  · rw [if_pos h0]
    exact hp
theorem qd8 (p : PS) (c : Change) : (doS p c).1.L.length ≤ p.L.length + 1 := by
  unfold doS
  split
  · exact Nat.le_succ _
  · split
    · exact Nat.le_succ _
    · simp
theorem qep {p : PS} {c : Change} (h : (doS p c).1.why = 0) : p.why = 0 ∧ (doneG p.F c).2 = 0 ∧ doS p c = (⟨(doneG p.F c).1, p.L ++ [c], 0⟩, true) := by
  unfold doS at h ⊢
  split at h
  · rename_i h1; exact absurd h h1
  · rename_i h1
    split at h
    · rename_i h2; exact absurd h h2
    · rename_i h2
      rw [if_neg h1, if_neg h2]
      exact ⟨by omega, by omega, rfl⟩
theorem qoy {p : PS} {c : Change} (h : (doS p c).1.why ≠ 0) : (doS p c).2 = false := by
  unfold doS at h ⊢
  split at h
  · rename_i h1; rw [if_pos h1]
  · rename_i h1
    rw [if_neg h1]
    split at h
    · rename_i h2; rw [if_pos h2]
    · exact absurd rfl h
theorem qg4 (p : PS) (c : Change) : (doS p c).2 = true ↔ (doS p c).1.why = 0 := by
  constructor
  · intro h
    apply Classical.byContradiction
    intro h2
    rw [qoy h2] at h
    cases h
  · intro h
    rw [(qep h).2.2]
theorem qg5 (f : List Node) (h off cnt : Int) (v : List Int) : putC f h off cnt v = daCh h off (((nodeAt f h).data.length : Int) + v.length - (replP (nodeAt f h).data off cnt v).1.length) v := rfl
theorem qm4 {p : PS} {h off cnt : Int} {v : List Int} (hp : InvP p) (hc : p.why = 0 → (replP (nodeAt p.F h).data off cnt v).2 = 0 → CanCh p.F (putC p.F h off cnt v)) : ∃ b, PutR h off cnt v p (putS p h off cnt v) b := by
  unfold putS
  by_cases h1 : (replP (nodeAt p.F h).data off cnt v).2 = 0
  · rw [if_neg (by omega)]
    exact ⟨_, .yes p _ _ h1 (qj0 hp fun h0 => hc h0 h1)⟩
  · rw [if_pos h1]
    exact ⟨_, .no p h1⟩
theorem qlv {p : PS} {h off cnt : Int} {v : List Int} (hp : InvP p) (hc : p.why = 0 → (replP (nodeAt p.F h).data off cnt v).2 = 0 → CanCh p.F (putC p.F h off cnt v)) : InvP (putS p h off cnt v) := by
  unfold putS
  by_cases h1 : (replP (nodeAt p.F h).data off cnt v).2 = 0
  · rw [if_neg (by omega)]
    exact qd7 hp fun h0 => hc h0 h1
  · rw [if_pos h1]
    exact ⟨hp.fit, hp.right, hp.pos, hp.chs⟩
theorem qlw (p : PS) (h off cnt : Int) (v : List Int) : (putS p h off cnt v).L.length ≤ p.L.length + 1 := by
  unfold putS
  split
  · exact Nat.le_succ _
  · exact qd8 _ _
theorem qny {p : PS} {h off cnt : Int} {v : List Int} (hq : (putS p h off cnt v).why = 0) : p.why = 0 ∧ (replP (nodeAt p.F h).data off cnt v).2 = 0 ∧ (doneG p.F (putC p.F h off cnt v)).2 = 0 ∧ putS p h off cnt v = ⟨(doneG p.F (putC p.F h off cnt v)).1, p.L ++ [putC p.F h off cnt v], 0⟩ := by
  unfold putS at hq ⊢
  split at hq
  · rename_i h1
    unfold refP at hq
    simp only at hq
    split at hq
    · exact absurd hq h1
    · rename_i h2; exact absurd hq h2
  · rename_i h1
    rw [if_neg h1]
    obtain ⟨h2, h3, h4⟩ := qep hq
    exact ⟨h2, by omega, h3, by rw [h4]⟩
noncomputable def spl1 (f : List Node) (h off : Int) : PS × Bool := doS (pen0 f) (mkCh (f.length + 1) (restN f h off))
noncomputable def spl2 (f : List Node) (h off : Int) : PS := (doS (spl1 f h off).1 (inCh (f.length + 1) (nodeAt f h).parent (placeP f h + 1))).1
noncomputable def spl3 (f : List Node) (h off : Int) : PS := (doS (spl2 f h off) (treeCh (nodeAt f h).parent (f.length + 1) h (besideP f h 1))).1
noncomputable def spl4 (f : List Node) (h off : Int) : PS := if (spl1 f h off).2 = true ∧ (nodeAt f h).parent ≠ 0 then (doS (spl3 f h off) (splitCh h (f.length + 1) off)).1 else (spl1 f h off).1
noncomputable def splQ (f : List Node) (h off : Int) : PS := putS (spl4 f h off) h off (restL f h off).length []
theorem qj1 {f : List Node} {x p i : Int} (hx : inR f x) (hp : inR f p) (hne : x ≠ p) (k : Int) : nodeAt (insFM f x p i) k = if k = p then { nodeAt f p with kids := insAt (nodeAt f p).kids i x } else if k = x then { nodeAt f x with parent := p } else nodeAt f k := by
  have hx1 := hx.1
  have hx2 := hx.2
  have hp1 := hp.1
  have hp2 := hp.2
  have hat : ∀ j : Int, 0 ≤ j → atI (insFM f x p i) j = if j = p - 1 then { atI f (p - 1) with kids := insAt (atI f (p - 1)).kids i x } else if j = x - 1 then { atI f (x - 1) with parent := p } else atI f j := by
    intro j h0
    unfold insFM
    rw [qbo _ _ _ (by omega) (by rw [qb4]; omega) _ h0]
    by_cases e : j = x - 1
    · rw [if_pos e, if_neg (by omega), if_pos e, qbo _ _ _ (by omega) (by omega) _ (by omega), if_neg (by omega)]
    · rw [if_neg e, qbo _ _ _ (by omega) (by omega) _ h0, if_neg e]
  by_cases h : inR f k
  · have h1 := h.1
    have hg : inR (insFM f x p i) k := ⟨h.1, by rw [qbv]; exact h.2⟩
    rw [qaf hg, hat _ (by omega), qaf hp, qaf hx, qaf h]
    by_cases e1 : k = p
    · rw [if_pos (by omega), if_pos e1]
    · rw [if_neg (by omega), if_neg e1]
      by_cases e2 : k = x
      · rw [if_pos (by omega), if_pos e2]
      · rw [if_neg (by omega), if_neg e2]
  · have hg : ¬ inR (insFM f x p i) k := fun h2 => h ⟨h2.1, by have := h2.2; rw [qbv] at this; exact this⟩
    rw [qa2 hg, if_neg (fun e : k = p => h (by rw [e]; exact hp)), if_neg (fun e : k = x => h (by rw [e]; exact hx)), qa2 h]
theorem qlx {f : List Node} {h : Int} (hh : inR f h) (d : List Int) (k : Int) : nodeAt (datF f h d) k = if k = h then { nodeAt f h with data := d } else nodeAt f k := by
  have h1 := hh.1
  have h2 := hh.2
  have hl : (datF f h d).length = f.length := by unfold datF; rw [qb4]
  by_cases hk : inR f k
  · have hk1 := hk.1
    have hg : inR (datF f h d) k := ⟨hk.1, by rw [hl]; exact hk.2⟩
    rw [qaf hg, qaf hk, qaf hh]
    unfold datF
    rw [qbo _ _ _ (by omega) (by omega) _ (by omega)]
    by_cases e : k = h
    · rw [if_pos (by omega), if_pos e]
    · rw [if_neg (by omega), if_neg e]
  · have hg : ¬ inR (datF f h d) k := fun h2 => hk ⟨h2.1, by have := h2.2; rw [hl] at this; exact this⟩
    rw [qa2 hg, if_neg (fun e : k = h => hk (by rw [e]; exact hh)), qa2 hk]
theorem qj2 {f : List Node} (hr : rightP f) {h : Int} (hh : inR f h) : (nodeAt f h).parent = h → (nodeAt f h).kind = 12 := by
  intro e
  apply Classical.byContradiction
  intro h12
  have h1 : upN f h = h := by
    rw [qlp hh]
    unfold aboveOf
    rw [if_neg h12]
    exact e
  have := qd2 hh
  rw [h1] at this
  exact qbe this (qag hr hh).2.2
theorem qf3 {k : Int} (h : textB k) : (traitsOf k).data = true ∧ k ≠ 12 ∧ (traitsOf k).hung = true := by
  rcases h with h | h <;> subst h <;> decide
theorem inv0 {f : List Node} (hf : Fit f) (hr : rightP f) {h : Int} (hh : inR f h) : InvP (pen0 f) := ⟨hf, hr, by have := hh.1; have := hh.2; show 0 < f.length; omega, fun c hc => by cases hc⟩
theorem qj3 (l : List Int) (off cnt : Int) (v : List Int) (h0 : 0 ≤ off) (h1 : 0 ≤ cnt) (h2 : off ≤ l.length) (h3 : l.length ≤ off + cnt) : replP l off cnt v = if 16384 < off + v.length then ([], 4) else (l.take off.toNat ++ v, 0) := by
  have hs : spTo l.length off cnt = l.length := by unfold spTo; omega
  unfold replP
  rw [if_neg (by omega), hs]
  by_cases h : 16384 < off + v.length
  · rw [if_pos (by omega), if_pos h]
  · rw [if_neg (by omega), if_neg h]
    unfold replL
    rw [List.drop_eq_nil_of_le (by omega), List.append_nil]
theorem qnz (f : List Node) (h off : Int) (h0 : 0 ≤ off) (hl : (nodeAt f h).data.length ≤ 1000000000) (ho : off ≤ (nodeAt f h).data.length) : restL f h off = (nodeAt f h).data.drop off.toNat := by
  unfold restL subP
  rw [show spTo (nodeAt f h).data.length off 4294967295 = (nodeAt f h).data.length by unfold spTo; omega, List.take_of_length_le (by omega)]
section
variable {f : List Node} {h off : Int} (hf : Fit f) (hr : rightP f) (hh : inR f h) (ht : textB (nodeAt f h).kind) (h0 : 0 ≤ off) (ho : off ≤ (nodeAt f h).data.length)
include hf hr hh ht h0 ho
theorem qj4 : FitN (restN f h off) := by
  have _ := hr; have _ := hh; have _ := ht; have _ := h0; have _ := ho
  exact ⟨Nat.le_trans (qju _ _ _) (hf.at h).data, by simp [restN, n0], by simp [restN, n0]⟩
theorem can1 : CanCh f (mkCh (f.length + 1) (restN f h off)) := .mk _ (qj4 hf hr hh ht h0 ho) (by simp [restN])
theorem inv1 : InvP (spl1 f h off).1 := qd7 (inv0 hf hr hh) fun _ => can1 hf hr hh ht h0 ho
theorem ok1 (hb : (spl1 f h off).2 = true) : spl1 f h off = (⟨f ++ [restN f h off], [mkCh (f.length + 1) (restN f h off)], 0⟩, true) := by
  have _ := hf; have _ := hr; have _ := hh; have _ := ht; have _ := h0; have _ := ho
  obtain ⟨_, h2, h3⟩ := qep ((qg4 _ _).1 hb)
  have e : spl1 f h off = _ := h3
  rw [e]
  have hd : doneG (pen0 f).F (mkCh (f.length + 1) (restN f h off)) = doneM f (restN f h off) := rfl
  rw [hd] at h2 ⊢
  unfold doneM at h2 ⊢
  split at h2
  · cases h2
  · rename_i h4
    rw [if_neg h4]
    split at h2
    · rename_i h5
      rw [if_pos h5]
      rfl
    · cases h2
theorem qj5 (hp : (nodeAt f h).parent ≠ 0) : inR f (nodeAt f h).parent ∧ 0 ≤ idx (nodeAt f (nodeAt f h).parent).kids h ∧ idx (nodeAt f (nodeAt f h).parent).kids h < (nodeAt f (nodeAt f h).parent).kids.length ∧ atI (nodeAt f (nodeAt f h).parent).kids (idx (nodeAt f (nodeAt f h).parent).kids h) = h ∧ placeP f h = idx (nodeAt f (nodeAt f h).parent).kids h := by
  have _ := hf; have _ := ht; have _ := h0; have _ := ho
  obtain ⟨hq, hm⟩ := qd6 hr hh hp
  obtain ⟨i, i0, i1, hi⟩ := qg2 hm
  have e := qhr (qce hr hq) i0 i1
  rw [hi] at e
  refine ⟨hq, by omega, by omega, by rw [e]; exact hi, by unfold placeP; omega⟩
theorem can2 (hp : (nodeAt f h).parent ≠ 0) (hw : (spl1 f h off).1.why = 0) : CanCh (spl1 f h off).1.F (inCh (f.length + 1) (nodeAt f h).parent (placeP f h + 1)) := by
  have e := ok1 hf hr hh ht h0 ho ((qg4 _ _).2 hw)
  rw [e]
  obtain ⟨hq, i0, i1, _, hpl⟩ := qj5 hf hr hh ht h0 ho hp
  have hq1 := hq.1
  have hq2 := hq.2
  have en : nodeAt (f ++ [restN f h off]) (nodeAt f h).parent = nodeAt f (nodeAt f h).parent := by rw [qbw, if_neg (by omega)]
  refine .ins _ _ _ ⟨by omega, by simp⟩ ⟨hq1, by simp; omega⟩ (by omega) ?_ ?_
  · show placeP f h + 1 ≤ (nodeAt (f ++ [restN f h off]) (nodeAt f h).parent).kids.length
    rw [en]; omega
  · show (nodeAt (f ++ [restN f h off]) (f.length + 1)).parent = 0
    rw [qbw, if_pos rfl]
    rfl
theorem inv2 (hp : (nodeAt f h).parent ≠ 0) : InvP (spl2 f h off) := qd7 (inv1 hf hr hh ht h0 ho) fun hw => can2 hf hr hh ht h0 ho hp hw
theorem inv3 (hp : (nodeAt f h).parent ≠ 0) : InvP (spl3 f h off) := qd7 (inv2 hf hr hh ht h0 ho hp) fun _ => .tree _ _ _ _
theorem inv4 : InvP (spl4 f h off) := by
  unfold spl4
  split
  · rename_i hc
    exact qd7 (inv3 hf hr hh ht h0 ho hc.2) fun _ => .spl _ _ _
  · exact inv1 hf hr hh ht h0 ho
theorem F4 (hw : (spl4 f h off).why = 0) : (spl1 f h off).2 = true ∧ (spl4 f h off).F = if (nodeAt f h).parent = 0 then f ++ [restN f h off] else insFM (f ++ [restN f h off]) (f.length + 1) (nodeAt f h).parent (placeP f h + 1) := by
  unfold spl4 at hw ⊢
  split at hw
  · rename_i hc
    rw [if_pos hc, if_neg hc.2]
    obtain ⟨w3, g3, e4⟩ := qep hw
    obtain ⟨w2, g2, e3⟩ := qep (p := spl2 f h off) w3
    obtain ⟨w1, g1, e2⟩ := qep (p := (spl1 f h off).1) w2
    refine ⟨hc.1, ?_⟩
    rw [e4]
    have hs : (doneG (spl3 f h off).F (splitCh h (f.length + 1) off)).1 = (spl3 f h off).F := by
      have e : doneG (spl3 f h off).F (splitCh h (f.length + 1) off) = if ([h, (f.length : Int) + 1].all fun k => inB (spl3 f h off).F k) = true then ((spl3 f h off).F, 0) else ([], 2) := rfl
      rw [e] at g3 ⊢
      split at g3
      · rename_i h5; rw [if_pos h5]
      · cases g3
    show (doneG (spl3 f h off).F (splitCh h (f.length + 1) off)).1 = _
    rw [hs]
    have e3' : spl3 f h off = _ := congrArg Prod.fst e3
    rw [e3']
    have ht' : (doneG (spl2 f h off).F (treeCh (nodeAt f h).parent (f.length + 1) h (besideP f h 1))).1 = (spl2 f h off).F := by
      have e : doneG (spl2 f h off).F (treeCh (nodeAt f h).parent (f.length + 1) h (besideP f h 1)) = if dec (treeP (spl2 f h off).F (treeCh (nodeAt f h).parent (f.length + 1) h (besideP f h 1))) = true then ((spl2 f h off).F, 0) else ([], 2) := rfl
      rw [e] at g2 ⊢
      split at g2
      · rename_i h5; rw [if_pos h5]
      · cases g2
    show (doneG (spl2 f h off).F (treeCh (nodeAt f h).parent (f.length + 1) h (besideP f h 1))).1 = _
    rw [ht']
    have e2' : spl2 f h off = _ := congrArg Prod.fst e2
    rw [e2']
    have e1 := ok1 hf hr hh ht h0 ho hc.1
    rw [e1] at g1 ⊢
    have e : doneG (f ++ [restN f h off]) (inCh (f.length + 1) (nodeAt f h).parent (placeP f h + 1)) = doneA (f ++ [restN f h off]) (inCh (f.length + 1) (nodeAt f h).parent (placeP f h + 1)) := rfl
    show (doneG (f ++ [restN f h off]) (inCh (f.length + 1) (nodeAt f h).parent (placeP f h + 1))).1 = _
    rw [e]
    have g1 : (doneG (f ++ [restN f h off]) (inCh (f.length + 1) (nodeAt f h).parent (placeP f h + 1))).2 = 0 := g1
    rw [e] at g1
    unfold doneA at g1 ⊢
    split at g1
    · rename_i h5; rw [if_pos h5]; rfl
    · cases g1
  · rename_i hc
    rw [if_neg hc]
    have hb : (spl1 f h off).2 = true := (qg4 _ _).2 hw
    have hp : (nodeAt f h).parent = 0 := by
      apply Classical.byContradiction
      intro h'
      exact hc ⟨hb, h'⟩
    rw [if_pos hp]
    refine ⟨hb, ?_⟩
    rw [ok1 hf hr hh ht h0 ho hb]
theorem node4 (hw : (spl4 f h off).why = 0) (k : Int) : nodeAt (spl4 f h off).F k = if (nodeAt f h).parent ≠ 0 ∧ k = (nodeAt f h).parent then { nodeAt f (nodeAt f h).parent with kids := insAt (nodeAt f (nodeAt f h).parent).kids (placeP f h + 1) (f.length + 1) } else if k = f.length + 1 then { restN f h off with parent := (nodeAt f h).parent } else nodeAt f k := by
  rw [(F4 hf hr hh ht h0 ho hw).2]
  by_cases hp : (nodeAt f h).parent = 0
  · rw [if_pos hp, if_neg (by omega), qbw, hp]
    rfl
  · obtain ⟨hq, i0, i1, _, hpl⟩ := qj5 hf hr hh ht h0 ho hp
    have hq1 := hq.1
    have hq2 := hq.2
    rw [if_neg hp, qj1 (f := f ++ [restN f h off]) ⟨by omega, by simp⟩ ⟨hq1, by simp; omega⟩ (by omega)]
    have en : nodeAt (f ++ [restN f h off]) (nodeAt f h).parent = nodeAt f (nodeAt f h).parent := by rw [qbw, if_neg (by omega)]
    rw [en]
    by_cases e1 : k = (nodeAt f h).parent
    · rw [if_pos e1, if_pos ⟨hp, e1⟩]
    · rw [if_neg e1, if_neg (show ¬ ((nodeAt f h).parent ≠ 0 ∧ k = (nodeAt f h).parent) from fun hx => e1 hx.2)]
      by_cases e2 : k = f.length + 1
      · rw [if_pos e2, if_pos e2, qbw, if_pos rfl]
      · rw [if_neg e2, if_neg e2, qbw, if_neg e2]
theorem self4 (hw : (spl4 f h off).why = 0) : nodeAt (spl4 f h off).F h = nodeAt f h ∧ inR (spl4 f h off).F h ∧ (spl4 f h off).F.length = f.length + 1 := by
  have h1 := hh.1
  have h2 := hh.2
  have hl : (spl4 f h off).F.length = f.length + 1 := by
    rw [(F4 hf hr hh ht h0 ho hw).2]
    split
    · simp
    · rw [qbv]; simp
  refine ⟨?_, ⟨h1, by omega⟩, hl⟩
  rw [node4 hf hr hh ht h0 ho hw, if_neg ?_, if_neg (by omega)]
  rintro ⟨hp, e⟩
  exact (qf3 ht).2.1 (qj2 hr hh e.symm)
theorem can5 (hw : (spl4 f h off).why = 0) (hre : (replP (nodeAt (spl4 f h off).F h).data off (restL f h off).length []).2 = 0) : CanCh (spl4 f h off).F (putC (spl4 f h off).F h off (restL f h off).length []) ∧ putC (spl4 f h off).F h off (restL f h off).length [] = daCh h off ((nodeAt f h).data.length - off) [] ∧ off ≤ 16384 := by
  obtain ⟨e, hin, hl⟩ := self4 hf hr hh ht h0 ho hw
  have hdl := (hf.at h).data
  have hre' := qnz f h off h0 hdl ho
  have hrl : ((restL f h off).length : Int) = (nodeAt f h).data.length - off := by rw [hre']; simp; omega
  have ep := qj3 (nodeAt f h).data off (restL f h off).length [] h0 (by omega) ho (by omega)
  rw [e, ep] at hre
  by_cases h16 : 16384 < off + (([] : List Int).length : Int)
  · rw [if_pos h16] at hre; cases hre
  · have h16' : off ≤ 16384 := by simp at h16; omega
    have ec : putC (spl4 f h off).F h off (restL f h off).length [] = daCh h off ((nodeAt f h).data.length - off) [] := by
      rw [qg5, e, ep, if_neg h16]
      congr 1
      simp
      omega
    refine ⟨?_, ec, h16'⟩
    rw [ec]
    refine .dat _ _ _ _ hin (by rw [e]; exact (qf3 ht).1) h0 (by omega) (by rw [e]; omega) (by simp) (by rw [e]; simp; omega)
theorem invQ : InvP (splQ f h off) := qlv (inv4 hf hr hh ht h0 ho) fun hw hre => (can5 hf hr hh ht h0 ho hw hre).1
structure SplitO (f : List Node) (h off : Int) (g : List Node) : Prop where
  fit : Fit g
  right : rightP g
  len : g.length = f.length + 1
  node : ∀ k, nodeAt g k = if k = h then { nodeAt f h with data := (nodeAt f h).data.take off.toNat } else if (nodeAt f h).parent ≠ 0 ∧ k = (nodeAt f h).parent then { nodeAt f (nodeAt f h).parent with kids := insAt (nodeAt f (nodeAt f h).parent).kids (placeP f h + 1) (f.length + 1) } else if k = f.length + 1 then { restN f h off with parent := (nodeAt f h).parent } else nodeAt f k
theorem qf4 (hw : (splQ f h off).why = 0) : (spl1 f h off).2 = true ∧ SplitO f h off (splQ f h off).F ∧ (splQ f h off).L = (spl4 f h off).L ++ [daCh h off ((nodeAt f h).data.length - off) []] := by
  obtain ⟨w4, hre, hd, e⟩ := qny hw
  obtain ⟨hc, ec, _⟩ := can5 hf hr hh ht h0 ho w4 hre
  obtain ⟨en, hin, hl⟩ := self4 hf hr hh ht h0 ho w4
  have hi := invQ hf hr hh ht h0 ho
  have eF : (splQ f h off).F = datF (spl4 f h off).F h ((nodeAt f h).data.take off.toNat) := by
    have e' : splQ f h off = _ := e
    rw [e']
    show (doneG (spl4 f h off).F (putC (spl4 f h off).F h off (restL f h off).length [])).1 = _
    rw [ec] at hd ⊢
    have ed : doneG (spl4 f h off).F (daCh h off ((nodeAt f h).data.length - off) []) = doneW (spl4 f h off).F h (repD (atI (spl4 f h off).F (h - 1)).data off ((nodeAt f h).data.length - off) []) := rfl
    rw [ed] at hd ⊢
    rw [← qaf hin, en, qlt _ _ _ _ h0 (by omega) (by omega), List.append_nil] at hd ⊢
    unfold doneW at hd ⊢
    split at hd
    · rename_i h5; rw [if_pos h5]
    · cases hd
  refine ⟨(F4 hf hr hh ht h0 ho w4).1, ⟨hi.fit, hi.right, ?_, ?_⟩, ?_⟩
  · rw [eF]; unfold datF; rw [qb4, hl]
  · intro k
    rw [eF, qlx hin, en]
    by_cases e1 : k = h
    · rw [if_pos e1, if_pos e1]
    · rw [if_neg e1, if_neg e1, node4 hf hr hh ht h0 ho w4]
  · have e' : splQ f h off = _ := e
    rw [e', ec]
theorem qj6 : SplitS f h off (spl1 f h off).1 (spl2 f h off) (spl3 f h off) (spl4 f h off) (splQ f h off) (spl1 f h off).2 where
  made := qj0 (inv0 hf hr hh) fun _ => can1 hf hr hh ht h0 ho
  lone := fun hc => by
    unfold spl4
    rw [if_neg]
    rintro ⟨a, b⟩
    rcases hc with hc | hc
    · rw [hc] at a; cases a
    · exact b hc
  ins := fun _ hp => ⟨_, qj0 (inv1 hf hr hh ht h0 ho) fun hw => can2 hf hr hh ht h0 ho hp hw⟩
  tree := fun _ hp => ⟨_, qj0 (inv2 hf hr hh ht h0 ho hp) fun _ => .tree _ _ _ _⟩
  spl := fun hb hp => ⟨_, by
    have := qj0 (inv3 hf hr hh ht h0 ho hp) (c := splitCh h (f.length + 1) off) fun _ => .spl _ _ _
    rw [show spl4 f h off = (doS (spl3 f h off) (splitCh h (f.length + 1) off)).1 by unfold spl4; rw [if_pos ⟨hb, hp⟩]]
    exact this⟩
  put := qm4 (inv4 hf hr hh ht h0 ho) fun hw hre => (can5 hf hr hh ht h0 ho hw hre).1
theorem len1 : (spl1 f h off).1.L.length ≤ 1 := by
  have _ := hf; have _ := hr; have _ := hh; have _ := ht; have _ := h0; have _ := ho
  have := qd8 (pen0 f) (mkCh (f.length + 1) (restN f h off)); exact this
theorem len2 : (spl2 f h off).L.length ≤ 2 := by have := qd8 (spl1 f h off).1 (inCh (f.length + 1) (nodeAt f h).parent (placeP f h + 1)); have := len1 hf hr hh ht h0 ho; unfold spl2; omega
theorem len3 : (spl3 f h off).L.length ≤ 3 := by have := qd8 (spl2 f h off) (treeCh (nodeAt f h).parent (f.length + 1) h (besideP f h 1)); have := len2 hf hr hh ht h0 ho; unfold spl3; omega
theorem len4 : (spl4 f h off).L.length ≤ 4 := by
  have := qd8 (spl3 f h off) (splitCh h (f.length + 1) off)
  have := len3 hf hr hh ht h0 ho
  have := len1 hf hr hh ht h0 ho
  unfold spl4
  split <;> omega
theorem lenQ : (splQ f h off).L.length ≤ 5 := by
  have := qlw (spl4 f h off) h off (restL f h off).length []
  have := len4 hf hr hh ht h0 ho
  unfold splQ
  omega
end
noncomputable def splitA (f : List Node) (h off : Int) : AV :=
  if cfP f h true ≠ 0 then .tup [fav [], iav 0, .imm (.sl []), iav (cfP f h true)]
  else if ((nodeAt f h).data.length : Int) < off then .tup [fav [], iav 0, .imm (.sl []), iav 14]
  else if (splQ f h off).why ≠ 0 then .tup [fav [], iav 0, .imm (.sl []), iav (splQ f h off).why]
  else .tup [fav (splQ f h off).F, iav (f.length + 1), .imm (.sl ((splQ f h off).L.map Change.iv)), iav 0]
theorem qly (f : List Node) (h off : Int) (hf : Fit f) (h0 : 0 ≤ off) (h1 : off < 4294967296) : PureC Tryz.prog 12 [fav f, iav h, u32 off] (splitA f h off) := by
  unfold splitA
  by_cases he : cfP f h true = 0
  · rw [if_neg (by omega)]
    obtain ⟨hr, hh, ht, _⟩ := qci he
    have ht := ht rfl
    by_cases ho : off ≤ (nodeAt f h).data.length
    · rw [if_neg (by omega)]
      have S := qj6 hf hr hh ht h0 ho
      have hi := invQ hf hr hh ht h0 ho
      have l1 := len1 hf hr hh ht h0 ho
      have l2 := len2 hf hr hh ht h0 ho
      have l3 := len3 hf hr hh ht h0 ho
      have l4 := len4 hf hr hh ht h0 ho
      have lq := lenQ hf hr hh ht h0 ho
      have := qnu f h off _ _ _ _ _ _ hf he h0 h1 ho S (inv4 hf hr hh ht h0 ho).fit (by omega) (by omega) (by omega) (by omega) (by omega) (fun hw => by
        rw [(qf4 hf hr hh ht h0 ho hw).2.2]; simp) (fun i i0 i1 => hi.chs _ (qa8 i0 i1))
      unfold ansS at this
      by_cases hw : (splQ f h off).why = 0
      · rw [if_neg (by omega)]
        rw [if_pos hw, if_pos (qf4 hf hr hh ht h0 ho hw).1] at this
        exact this
      · rw [if_pos hw]
        rw [if_neg hw] at this
        exact this
    · rw [if_pos (by omega)]
      exact qh9 f h off hf he h0 h1 (by omega)
  · rw [if_pos he]
    exact qjv f h off hf he
def cmpGo : List Int → List Int → Int
  | [], [] => 0
  | [], _ :: _ => -1
  | _ :: _, [] => 1
  | a :: u, b :: v => if a < b then -1 else if b < a then 1 else cmpGo u v
theorem qht : ∀ u v : List Int, cmpGo u v = 0 ↔ u = v
  | [], [] => by simp [cmpGo]
  | [], _ :: _ => by simp [cmpGo]
  | _ :: _, [] => by simp [cmpGo]
  | a :: u, b :: v => by
    unfold cmpGo
    by_cases h1 : a < b
    · rw [if_pos h1]
      constructor
      · intro h; omega
      · intro h; injection h with h2 h3; omega
    · rw [if_neg h1]
      by_cases h2 : b < a
      · rw [if_pos h2]
        constructor
        · intro h; omega
        · intro h; injection h with h2 h3; omega
      · rw [if_neg h2, qht u v]
        have : a = b := by omega
        subst this
        simp
theorem qfd (u v : List Int) {i : Int} (h0 : 0 ≤ i) (h1 : i < u.length) (h2 : i < v.length) : cmpGo (u.drop i.toNat) (v.drop i.toNat) = if atI u i < atI v i then -1 else if atI v i < atI u i then 1 else cmpGo (u.drop (i + 1).toNat) (v.drop (i + 1).toNat) := by
  rw [qd h0 h1, qd h0 h2]
  rfl
theorem qo9 (u v : List Int) {i : Int} (h0 : 0 ≤ i) (h1 : u.length ≤ i) (h2 : i < v.length) : cmpGo (u.drop i.toNat) (v.drop i.toNat) = -1 := by
  rw [List.drop_eq_nil_of_le (by omega), qd h0 h2]
  rfl
theorem qpa (u v : List Int) {i : Int} (h0 : 0 ≤ i) (h1 : i < u.length) (h2 : v.length ≤ i) : cmpGo (u.drop i.toNat) (v.drop i.toNat) = 1 := by
  rw [show v.drop i.toNat = [] from List.drop_eq_nil_of_le (by omega), qd h0 h1]
  rfl
theorem qpb (u v : List Int) {i : Int} (h0 : 0 ≤ i) (h1 : u.length ≤ i) (h2 : v.length ≤ i) : cmpGo (u.drop i.toNat) (v.drop i.toNat) = 0 := by
  rw [show v.drop i.toNat = [] from List.drop_eq_nil_of_le (by omega), show u.drop i.toNat = [] from List.drop_eq_nil_of_le (by omega)]
  rfl
theorem qj7 (u v : List Int) (hu : u.length ≤ 1000000000) (hv : v.length ≤ 1000000000) : PureC Tryz.prog 58 [.imm (.sl (u.map u16)), .imm (.sl (v.map u16))] (iav (cmpGo u v)) := by
  have hmu : (u.map u16).length = u.length := List.length_map _
  have hmv : (v.map u16).length = v.length := List.length_map _
  refine yq tabs Tryz.func58 48 [.tmp 4] rfl rfl rfl rfl rfl ?_; intro w0 X
  (repeat' (first | ((with_reducible show AL _ _ _ _ _); first | (refine AL.step tabs rfl ?_; try dsimp only [len, List.nil_append, List.cons_append]) | refine ym ?_ | (refine yj rfl rfl rfl (fun hc => ?_) (fun hc => ?_) <;> (fail_if_success (exact absurd hc (by decide))) <;> (try simp only [hsx] at hc) <;> (try first | omega | contradiction | (simp [qa] at hc; done))) | (refine AL.op rfl (yi rfl rfl rfl rfl rfl (by omega) (by omega)) ?_) | (refine AL.op rfl (ye tabs rfl rfl rfl rfl rfl rfl rfl (fun _ => rfl) (by decide) (by omega) (by omega)) ?_)) | ((with_reducible show DQ _ _ _ _ _ _); first | refine DQ.stepc (LS.val tabs rfl rfl rfl) rfl rfl rfl rfl rfl ?_ | refine DQ.stepc (yab rfl rfl) rfl rfl rfl rfl rfl ?_ | refine DQ.nilM (by kernel_rfl) ?_ | refine DQ.stepc (yaf rfl rfl rfl rfl rfl rfl (by omega) (by omega)) rfl rfl rfl rfl rfl ?_ | refine DQ.stepc (yaa tabs rfl rfl rfl rfl rfl rfl rfl rfl (fun _ => rfl) (by decide) (by omega) (by omega)) rfl rfl rfl rfl rfl ?_ | (refine DQ.gsplitE rfl rfl rfl (fun hc => ?_) (fun hc => ?_) <;> (fail_if_success (exact absurd hc (by decide))) <;> (try simp only [hsx] at hc) <;> (try first | omega | contradiction | (simp [qa] at hc; done)))) | fail | refine yn ?_ | refine yc ?_ | refine ya ?_ | refine yf ?_ | refine AW.block ?_ | refine yt ?_ | refine yh rfl ?_ | refine yg rfl ?_ | (refine yk rfl (fun hc => ?_) (fun hc => ?_) <;> (try simp only [hsx] at hc) <;> (try first | omega | contradiction | (simp [qa] at hc; done))) | refine yo ?_ | refine yy ?_ | refine yd ?_ | refine yp ?_ | refine yw ?_ | refine yr ?_ | refine InB.off rfl ?_ | refine yz ?_ | refine yu ?_ | refine yx mixed (by kernel_rfl) ?_))
  refine yak (α := Int) (fun i => ⟨[(0, .imm (.sl (u.map u16))), (1, .imm (.sl (v.map u16))), (5, iav i)], []⟩) (fun i => 0 ≤ i ∧ i ≤ u.length ∧ i ≤ v.length ∧ cmpGo (u.drop i.toNat) (v.drop i.toNat) = cmpGo u v) (fun i => (u.length - i).toNat) 0 (yae 0 rfl (by repeat' (first | exact trivial | refine ⟨rfl, ?_⟩)) rfl rfl (Nat.zero_le _)) ⟨by omega, by omega, by omega, rfl⟩ ?_
  intro i ⟨h0, h1, h2, h3⟩
  (repeat' (first | ((with_reducible show AL _ _ _ _ _); first | (refine AL.step tabs rfl ?_; try dsimp only [len, List.nil_append, List.cons_append]) | refine ym ?_ | (refine yj rfl rfl rfl (fun hc => ?_) (fun hc => ?_) <;> (fail_if_success (exact absurd hc (by decide))) <;> (try simp only [hsx] at hc) <;> (try first | omega | contradiction | (simp [qa] at hc; done))) | (refine AL.op rfl (yi rfl rfl rfl rfl rfl (by omega) (by omega)) ?_) | (refine AL.op rfl (ye tabs rfl rfl rfl rfl rfl rfl rfl (fun _ => rfl) (by decide) (by omega) (by omega)) ?_)) | ((with_reducible show DQ _ _ _ _ _ _); first | refine DQ.stepc (LS.val tabs rfl rfl rfl) rfl rfl rfl rfl rfl ?_ | refine DQ.stepc (yab rfl rfl) rfl rfl rfl rfl rfl ?_ | refine DQ.nilM (by kernel_rfl) ?_ | refine DQ.stepc (yaf rfl rfl rfl rfl rfl rfl (by omega) (by omega)) rfl rfl rfl rfl rfl ?_ | refine DQ.stepc (yaa tabs rfl rfl rfl rfl rfl rfl rfl rfl (fun _ => rfl) (by decide) (by omega) (by omega)) rfl rfl rfl rfl rfl ?_ | (refine DQ.gsplitE rfl rfl rfl (fun hc => ?_) (fun hc => ?_) <;> (fail_if_success (exact absurd hc (by decide))) <;> (try simp only [hsx] at hc) <;> (try first | omega | contradiction | (simp [qa] at hc; done)))) | refine yn ?_ | refine yc ?_ | refine ya ?_ | refine yf ?_ | refine AW.block ?_ | refine yt ?_ | refine yh rfl ?_ | refine yg rfl ?_ | (refine yk rfl (fun hc => ?_) (fun hc => ?_) <;> (try simp only [hsx] at hc) <;> (try first | omega | contradiction | (simp [qa] at hc; done))) | refine yo ?_ | refine yy ?_ | refine yd ?_ | refine yp ?_ | refine yw ?_ | refine yr ?_ | refine InB.off rfl ?_ | refine yz ?_ | refine yu ?_ | refine yx mixed (by kernel_rfl) ?_))
  · rw [qfd u v h0 (by assumption) (by assumption), if_pos hc] at h3
    rw [← h3]
    exact RQ.fin rfl rfl rfl
  · rw [qfd u v h0 (by assumption) (by assumption), if_neg (by omega), if_pos hc] at h3
    rw [← h3]
    exact RQ.fin rfl rfl rfl
  · rw [qfd u v h0 (by assumption) (by assumption), if_neg (by omega), if_neg (by omega)] at h3
    exact yag (i + 1) (yae 0 rfl (by repeat' (first | exact trivial | refine ⟨rfl, ?_⟩)) rfl rfl (Nat.zero_le _)) ⟨by omega, by omega, by omega, h3⟩ (by omega)
  · rw [qpa u v h0 (by assumption) (by assumption)] at h3
    rw [← h3]
    exact RQ.fin rfl rfl rfl
  · rw [qo9 u v h0 (by assumption) (by omega)] at h3
    rw [← h3]
    exact RQ.fin rfl rfl rfl
  · rw [qpb u v h0 (by omega) (by omega)] at h3
    rw [← h3]
    exact RQ.fin rfl rfl rfl
theorem qf5 (u v : List Int) (hu : u.length ≤ 1000000000) (hv : v.length ≤ 1000000000) : PureC Tryz.prog 17 [.imm (.sl (u.map u16)), .imm (.sl (v.map u16))] (bav (dec (u = v))) := by
  have c1 := qj7 u v hu hv
  rw [show dec (u = v) = dec (cmpGo u v = 0) by rw [Bool.eq_iff_iff, qb, qb]; exact (qht u v).symm]
  refine yq tabs Tryz.func17 9 [.tmp 4] rfl rfl rfl rfl rfl ?_; intro w0 X
  (repeat' (first | ((with_reducible show AL _ _ _ _ _); first | (refine AL.step tabs rfl ?_; try dsimp only [len, List.nil_append, List.cons_append]) | refine AL.op rfl (yb rfl rfl rfl rfl c1 rfl) ?_ | refine ym ?_) | refine yn ?_ | refine yc ?_ | refine ya ?_ | refine yf ?_ | refine yo ?_ | refine yd ?_))
  exact RQ.fin rfl rfl rfl
def docN : Node := { n0 with kind := 9, doc := 1, html := true }
def rawD : List AV := [kav 9, sav es, sav es, sav es, sav es, sav es, .nils, .nils, iav 0, .nils, iav 1, iav 0, iav 0, kav 0, bav false, bav true]
def rawP (k : AV) : List AV := [kav 1, sav es, sav es, sav ⟨#[112]⟩, sav es, sav es, .nils, .nils, iav 0, k, iav 1, iav 0, iav 0, kav 0, bav false, bav false]
def rawX (s : List Int) : List AV := [kav 3, sav es, sav es, sav es, sav es, sav es, .imm (.sl (s.map u16)), .nils, iav 2, .nils, iav 1, iav 0, iav 0, kav 0, bav false, bav false]
theorem qpc : GenC Tryz.prog 91 [] [bav true] (.agg [.os 1 1]) [⟨24, 1, [[.os 1 1]]⟩, ⟨44, 16, [rawD]⟩] := by
  refine yaj tabs Tryz.func91 7 [.cell 2 24] rfl rfl rfl rfl rfl ?_; intro w0 X γ κ
  (repeat' (first | ((with_reducible show AL _ _ _ _ _); first | (refine AL.step tabs rfl ?_; try dsimp only [len, List.nil_append, List.cons_append]) | refine ym ?_) | refine yn ?_ | refine yc ?_ | refine ya ?_ | refine yf ?_ | refine yo ?_ | refine yd ?_))
  exact yam 2 rfl rfl rfl rfl rfl (by simp [cxG])
def pN : Node := { n0 with kind := 1, name := ⟨es, es, ⟨#[112]⟩⟩, doc := 1, kids := [3] }
def tN (s : List Int) : Node := { n0 with kind := 3, doc := 1, parent := 2, data := s }
def textF (s : List Int) : List Node := [docN, pN, tN s]
theorem qj8 (s : List Int) : PureC Tryz.prog 56 [.imm (.sl (s.map u16))] (fav (textF s)) := by
  have hr : ∀ r ∈ [rawP (.os 4 1), rawX s], r.length = 16 := by
    intro r hr
    rcases List.mem_cons.1 hr with e | hr
    · rw [e]; rfl
    · rw [List.mem_singleton.1 hr]; rfl
  have hc : ∀ c ∈ [rawP (.os 4 1), rawX s].flatten, c.cell = true := by
    have : [rawP (.os 4 1), rawX s].flatten.all AV.cell = true := rfl
    rw [List.all_eq_true] at this
    exact this
  refine yq tabs Tryz.func56 16 [.cell 2 24] rfl rfl rfl rfl rfl ?_; intro w0 X
  (repeat' (first | ((with_reducible show AL _ _ _ _ _); first | (refine AL.step tabs rfl ?_; try dsimp only [len, List.nil_append, List.cons_append]) | refine yac [] 1 rfl rfl rfl rfl rfl (caps := []) rfl qpc rfl rfl rfl rfl rfl rfl rfl rfl (hpA := [⟨24, 1, [[.os 2 1]]⟩, ⟨44, 16, [rawD]⟩]) rfl (r' := .agg [.os 2 1]) rfl rfl ?_; try dsimp only [setAll, List.drop_succ_cons, List.drop_zero, List.drop_nil, List.set_cons_succ, List.set_cons_zero, List.cons_append, List.nil_append, List.append_nil, len, Nat.reduceAdd] | refine yad rfl (yal (ie := ti44) (b := ⟨44, 16, [rawD]⟩) (rows2 := [rawP (.os 4 1), rawX s]) tabs rfl rfl rfl rfl rfl rfl rfl rfl rfl rfl (SrcA.own tabs rfl rfl rfl (b := ⟨44, 16, [rawP (.os 4 1), rawX s]⟩) rfl rfl rfl hr hc) (by simp [ti44]) (by simp)) rfl ?_ | refine ym ?_) | refine yn ?_ | refine yc ?_ | refine ya ?_ | refine yf ?_ | refine yo ?_ | refine yd ?_))
  refine yao rfl (yca (.cons (Fz.osN (b := ⟨44, 16, [rawD, rawP (.os 4 1), rawX s]⟩) (rows := (textF s).map Node.iv) (hb := rfl) (hver := ?_) (hlen := ?_) (hrl := ?_) (hr := ?_)) .nil))
  · rfl
  · rfl
  · intro r hr
    obtain ⟨n, _, rfl⟩ := List.mem_map.1 hr
    rfl
  repeat' (first | exact All2.nil | refine All2.cons ?_ ?_)
  all_goals first
    | exact FzI.imm _
    | exact FzI.of (Fz.cv rfl)
    | (refine FzI.of (Fz.os (hb := rfl) (hver := ?_) (hr := ?_)) <;> rfl)
theorem qx (p : Prop) [Decidable p] : dec p = decide p := qa p
theorem qfe {f : List Node} (h : f.length ≤ 4096) (h2 : ∀ j : Nat, j < f.length → okP f (j : Int) (atI f j)) : rightP f := ⟨h, fun i h0 h1 => by
  have := h2 i.toNat (by omega)
  rw [show ((i.toNat : Nat) : Int) = i by omega] at this
  exact this⟩
theorem sz0 : (⟨#[]⟩ : ByteArray).size = 0 := rfl
theorem szp : (⟨#[112]⟩ : ByteArray).size = 1 := rfl
def p2 (ks : List Int) : Node := { pN with kids := ks }
def xN (r : List Int) (p : Int) : Node := { n0 with kind := 3, doc := 1, parent := p, data := r }
def text4 (s r : List Int) (ks : List Int) (p : Int) : List Node := [docN, p2 ks, tN s, xN r p]
theorem qck (s : List Int) (hs : s.length ≤ 16384) : rightP (textF s) := by
  have hr := hs
  refine qfe (by simp [textF]) fun j hj => ?_
  have hj' : j < 3 := hj
  match j, hj' with
  | 0, _ =>
    refine ⟨?_, ?_, 1, ?_⟩
    · simp [madeP, m11, m27, m50, m77, m100, m200, textF, docN, pN, p2, tN, xN, atI, n0, traitsOf, namingB, namedB, shortB, attrsB, attrsGo, es, sz0, szp, qx] <;> omega
    · simp [linksP, l1, l2, l3, l4, kidsB, kidsGo, famB, famGo, nodeAt, inB, cntB, textF, docN, pN, p2, tN, xN, atI, n0, qx]
    · simp [inR, itN, upN, aboveOf, textF, docN, pN, p2, tN, xN, atI, n0]
  | 1, _ =>
    refine ⟨?_, ?_, 1, ?_⟩
    · simp [madeP, m11, m27, m50, m77, m100, m200, textF, docN, pN, p2, tN, xN, atI, n0, traitsOf, namingB, namedB, shortB, attrsB, attrsGo, es, sz0, szp, qx] <;> omega
    · simp [linksP, l1, l2, l3, l4, kidsB, kidsGo, famB, famGo, nodeAt, inB, cntB, textF, docN, pN, p2, tN, xN, atI, n0, qx]
    · simp [inR, itN, upN, aboveOf, textF, docN, pN, p2, tN, xN, atI, n0]
  | 2, _ =>
    refine ⟨?_, ?_, 2, ?_⟩
    · simp [madeP, m11, m27, m50, m77, m100, m200, textF, docN, pN, p2, tN, xN, atI, n0, traitsOf, namingB, namedB, shortB, attrsB, attrsGo, es, sz0, szp, qx] <;> omega
    · simp [linksP, l1, l2, l3, l4, kidsB, kidsGo, famB, famGo, nodeAt, inB, cntB, textF, docN, pN, p2, tN, xN, atI, n0, qx]
    · simp [inR, itN, upN, aboveOf, textF, docN, pN, p2, tN, xN, atI, n0]
theorem qd9 (s r : List Int) (hs : s.length ≤ 16384) (hr : r.length ≤ 16384) : rightP (text4 s r [3, 4] 2) := by
  refine qfe (by simp [text4]) fun j hj => ?_
  have hj' : j < 4 := hj
  match j, hj' with
  | 0, _ =>
    refine ⟨?_, ?_, 1, ?_⟩
    · simp [madeP, m11, m27, m50, m77, m100, m200, text4, docN, pN, p2, tN, xN, atI, n0, traitsOf, namingB, namedB, shortB, attrsB, attrsGo, es, sz0, szp, qx] <;> omega
    · simp [linksP, l1, l2, l3, l4, kidsB, kidsGo, famB, famGo, nodeAt, inB, cntB, text4, docN, pN, p2, tN, xN, atI, n0, qx]
    · simp [inR, itN, upN, aboveOf, text4, docN, pN, p2, tN, xN, atI, n0]
  | 1, _ =>
    refine ⟨?_, ?_, 1, ?_⟩
    · simp [madeP, m11, m27, m50, m77, m100, m200, text4, docN, pN, p2, tN, xN, atI, n0, traitsOf, namingB, namedB, shortB, attrsB, attrsGo, es, sz0, szp, qx] <;> omega
    · simp [linksP, l1, l2, l3, l4, kidsB, kidsGo, famB, famGo, nodeAt, inB, cntB, text4, docN, pN, p2, tN, xN, atI, n0, qx]
    · simp [inR, itN, upN, aboveOf, text4, docN, pN, p2, tN, xN, atI, n0]
  | 2, _ =>
    refine ⟨?_, ?_, 2, ?_⟩
    · simp [madeP, m11, m27, m50, m77, m100, m200, text4, docN, pN, p2, tN, xN, atI, n0, traitsOf, namingB, namedB, shortB, attrsB, attrsGo, es, sz0, szp, qx] <;> omega
    · simp [linksP, l1, l2, l3, l4, kidsB, kidsGo, famB, famGo, nodeAt, inB, cntB, text4, docN, pN, p2, tN, xN, atI, n0, qx]
    · simp [inR, itN, upN, aboveOf, text4, docN, pN, p2, tN, xN, atI, n0]
  | 3, _ =>
    refine ⟨?_, ?_, 2, ?_⟩
    · simp [madeP, m11, m27, m50, m77, m100, m200, text4, docN, pN, p2, tN, xN, atI, n0, traitsOf, namingB, namedB, shortB, attrsB, attrsGo, es, sz0, szp, qx] <;> omega
    · simp [linksP, l1, l2, l3, l4, kidsB, kidsGo, famB, famGo, nodeAt, inB, cntB, text4, docN, pN, p2, tN, xN, atI, n0, qx]
    · simp [inR, itN, upN, aboveOf, text4, docN, pN, p2, tN, xN, atI, n0]
theorem qf6 (s r : List Int) (hs : s.length ≤ 16384) (hr : r.length ≤ 16384) : rightP (text4 s r [3] 0) := by
  refine qfe (by simp [text4]) fun j hj => ?_
  have hj' : j < 4 := hj
  match j, hj' with
  | 0, _ =>
    refine ⟨?_, ?_, 1, ?_⟩
    · simp [madeP, m11, m27, m50, m77, m100, m200, text4, docN, pN, p2, tN, xN, atI, n0, traitsOf, namingB, namedB, shortB, attrsB, attrsGo, es, sz0, szp, qx] <;> omega
    · simp [linksP, l1, l2, l3, l4, kidsB, kidsGo, famB, famGo, nodeAt, inB, cntB, text4, docN, pN, p2, tN, xN, atI, n0, qx]
    · simp [inR, itN, upN, aboveOf, text4, docN, pN, p2, tN, xN, atI, n0]
  | 1, _ =>
    refine ⟨?_, ?_, 1, ?_⟩
    · simp [madeP, m11, m27, m50, m77, m100, m200, text4, docN, pN, p2, tN, xN, atI, n0, traitsOf, namingB, namedB, shortB, attrsB, attrsGo, es, sz0, szp, qx] <;> omega
    · simp [linksP, l1, l2, l3, l4, kidsB, kidsGo, famB, famGo, nodeAt, inB, cntB, text4, docN, pN, p2, tN, xN, atI, n0, qx]
    · simp [inR, itN, upN, aboveOf, text4, docN, pN, p2, tN, xN, atI, n0]
  | 2, _ =>
    refine ⟨?_, ?_, 2, ?_⟩
    · simp [madeP, m11, m27, m50, m77, m100, m200, text4, docN, pN, p2, tN, xN, atI, n0, traitsOf, namingB, namedB, shortB, attrsB, attrsGo, es, sz0, szp, qx] <;> omega
    · simp [linksP, l1, l2, l3, l4, kidsB, kidsGo, famB, famGo, nodeAt, inB, cntB, text4, docN, pN, p2, tN, xN, atI, n0, qx]
    · simp [inR, itN, upN, aboveOf, text4, docN, pN, p2, tN, xN, atI, n0]
  | 3, _ =>
    refine ⟨?_, ?_, 1, ?_⟩
    · simp [madeP, m11, m27, m50, m77, m100, m200, text4, docN, pN, p2, tN, xN, atI, n0, traitsOf, namingB, namedB, shortB, attrsB, attrsGo, es, sz0, szp, qx] <;> omega
    · simp [linksP, l1, l2, l3, l4, kidsB, kidsGo, famB, famGo, nodeAt, inB, cntB, text4, docN, pN, p2, tN, xN, atI, n0, qx]
    · simp [inR, itN, upN, aboveOf, text4, docN, pN, p2, tN, xN, atI, n0]
theorem qoz {f : List Node} (h : f.length ≤ 1000000000) (h2 : ∀ n ∈ f, n.data.length ≤ 100000 ∧ n.attrs.length ≤ 10 ∧ n.kids.length ≤ 10) : Fit f := ⟨h, fun n hn => by
  obtain ⟨a, b, c⟩ := h2 n hn
  exact ⟨by omega, by omega, by omega⟩⟩
theorem qff (s : List Int) (hs : s.length ≤ 16384) : Fit (textF s) := qoz (by simp [textF]) (by simp [textF, docN, pN, tN, n0]; omega)
theorem cf0 {f : List Node} {h : Int} {b : Bool} (hr : rightP f) (hh : inR f h) (hd : dataB (nodeAt f h).kind) (ht : b = true → textB (nodeAt f h).kind) : cfP f h b = 0 := by
  have hfa : faultR f [h] = 0 := by
    unfold faultR
    rw [if_pos (by rw [qb]; exact hr), if_pos (by simpa using qlo.2 hh)]
  unfold cfP
  rw [hfa, if_neg (by omega), if_neg]
  rintro (h1 | ⟨h1, h2⟩)
  · rw [qg] at h1; exact h1 hd
  · rw [qg] at h2; exact h2 (ht h1)
def abc : List Int := [97, 98, 99]
theorem qg6 (s : List Int) (hs : s.length ≤ 16384) (b : Bool) : cfP (textF s) 3 b = 0 := cf0 (qck s hs) (by simp [inR, textF]) (.inl (.inl rfl)) (fun _ => .inl rfl)
theorem qj9 : ∃ L : List Change, L.length = 1 ∧ PureC Tryz.prog 19 [fav (textF abc), iav 3, u32 1, u32 9, .imm (.sl (([120] : List Int).map u16))] (.tup [fav (textF [97, 120]), .imm (.sl (L.map Change.iv)), iav 0]) := by
  have hf := qff abc (by decide)
  have hr := qck abc (by decide)
  have hin : inR (textF abc) 3 := by simp [inR, textF]
  have hi := inv0 hf hr hin
  have hcf := qg6 abc (by decide) false
  have ep : replP (nodeAt (textF abc) 3).data 1 9 [120] = ([97, 120], 0) := by decide
  have ec : putC (textF abc) 3 1 9 [120] = daCh 3 1 2 [120] := by
    rw [qg5, ep]
    rfl
  have hcan : CanCh (textF abc) (daCh 3 1 2 [120]) := .dat _ _ _ _ hin (by decide) (by omega) (by omega) (by decide) (by decide) (by decide)
  have hd : doneG (textF abc) (daCh 3 1 2 [120]) = (textF [97, 120], 0) := by
    rw [show doneG (textF abc) (daCh 3 1 2 [120]) = doneW (textF abc) 3 [97, 120] from rfl]
    unfold doneW
    rw [show datF (textF abc) 3 [97, 120] = textF [97, 120] from rfl, if_pos (by rw [qb]; exact qck _ (by decide))]
  obtain ⟨b, hb⟩ := qm4 (p := pen0 (textF abc)) (h := 3) (off := 1) (cnt := 9) (v := [120]) hi (fun _ _ => by rw [show (pen0 (textF abc)).F = textF abc from rfl, ec]; exact hcan)
  have eq : putS (pen0 (textF abc)) 3 1 9 [120] = ⟨textF [97, 120], [daCh 3 1 2 [120]], 0⟩ := by
    unfold putS doS
    rw [show (pen0 (textF abc)).F = textF abc from rfl, ep, ec, hd, if_neg (by simp), if_neg (by simp [pen0]), if_neg (by simp)]
    rfl
  have := qjr (textF abc) _ b 3 [120] 1 9 hf (by omega) (by omega) (by omega) (by omega) (by simp) (fun _ => hb)
  rw [eq, hcf] at this
  unfold ansP at this
  rw [if_neg (by omega), if_neg (by simp)] at this
  exact ⟨_, rfl, this⟩
theorem qka : ∃ (g : List Node) (L : List Change), g.length = 4 ∧ (nodeAt g 4).data = [98, 99] ∧ L.length = 5 ∧ PureC Tryz.prog 12 [fav (textF abc), iav 3, u32 1] (.tup [fav g, iav 4, .imm (.sl (L.map Change.iv)), iav 0]) := by
  have hf := qff abc (by decide)
  have hr := qck abc (by decide)
  have hin : inR (textF abc) 3 := by simp [inR, textF]
  have hcf := qg6 abc (by decide) true
  have ht : textB (nodeAt (textF abc) 3).kind := .inl rfl
  have ho : (1 : Int) ≤ (nodeAt (textF abc) 3).data.length := by decide
  have e1 : spl1 (textF abc) 3 1 = (⟨text4 abc [98, 99] [3] 0, [mkCh 4 (restN (textF abc) 3 1)], 0⟩, true) := by
    unfold spl1 doS
    rw [if_neg (by simp [pen0])]
    have hd : doneG (pen0 (textF abc)).F (mkCh ((textF abc).length + 1) (restN (textF abc) 3 1)) = (text4 abc [98, 99] [3] 0, 0) := by
      rw [show doneG (pen0 (textF abc)).F (mkCh ((textF abc).length + 1) (restN (textF abc) 3 1)) = doneM (textF abc) (restN (textF abc) 3 1) from rfl]
      unfold doneM
      rw [if_neg (by simp [textF]), show textF abc ++ [restN (textF abc) 3 1] = text4 abc [98, 99] [3] 0 from rfl, if_pos (by rw [qb]; exact qf6 _ _ (by decide) (by decide))]
    rw [hd, if_neg (by simp)]
    rfl
  have e2 : spl2 (textF abc) 3 1 = ⟨text4 abc [98, 99] [3, 4] 2, [mkCh 4 (restN (textF abc) 3 1), inCh 4 2 1], 0⟩ := by
    unfold spl2 doS
    rw [e1, if_neg (by simp)]
    have hd : doneG (text4 abc [98, 99] [3] 0) (inCh ((textF abc).length + 1) (nodeAt (textF abc) 3).parent (placeP (textF abc) 3 + 1)) = (text4 abc [98, 99] [3, 4] 2, 0) := by
      rw [show doneG (text4 abc [98, 99] [3] 0) (inCh ((textF abc).length + 1) (nodeAt (textF abc) 3).parent (placeP (textF abc) 3 + 1)) = doneA (text4 abc [98, 99] [3] 0) (inCh 4 2 1) from rfl]
      unfold doneA
      rw [show insFM (text4 abc [98, 99] [3] 0) (inCh 4 2 1).node (inCh 4 2 1).parent (inCh 4 2 1).index = text4 abc [98, 99] [3, 4] 2 from rfl, if_pos (by rw [qb]; exact qd9 _ _ (by decide) (by decide))]
    simp only
    rw [hd, if_neg (by simp)]
    rfl
  have e3 : spl3 (textF abc) 3 1 = ⟨text4 abc [98, 99] [3, 4] 2, [mkCh 4 (restN (textF abc) 3 1), inCh 4 2 1, treeCh 2 4 3 0], 0⟩ := by
    unfold spl3 doS
    rw [e2, if_neg (by simp)]
    have hd : doneG (text4 abc [98, 99] [3, 4] 2) (treeCh (nodeAt (textF abc) 3).parent ((textF abc).length + 1) 3 (besideP (textF abc) 3 1)) = (text4 abc [98, 99] [3, 4] 2, 0) := by
      rw [show besideP (textF abc) 3 1 = 0 by unfold besideP; rw [if_neg (by decide), if_pos (.inr (by decide))]]
      rw [show doneG (text4 abc [98, 99] [3, 4] 2) (treeCh (nodeAt (textF abc) 3).parent ((textF abc).length + 1) 3 0) = if dec (treeP (text4 abc [98, 99] [3, 4] 2) (treeCh 2 4 3 0)) = true then (text4 abc [98, 99] [3, 4] 2, 0) else ([], 2) from rfl]
      rw [if_pos]
      rw [qb]
      exact ⟨rfl, rfl, rfl, .inr rfl, .inl rfl⟩
    simp only
    rw [hd, if_neg (by simp)]
    rw [show besideP (textF abc) 3 1 = 0 by unfold besideP; rw [if_neg (by decide), if_pos (.inr (by decide))]]
    rfl
  have e4 : spl4 (textF abc) 3 1 = ⟨text4 abc [98, 99] [3, 4] 2, [mkCh 4 (restN (textF abc) 3 1), inCh 4 2 1, treeCh 2 4 3 0, splitCh 3 4 1], 0⟩ := by
    unfold spl4
    rw [if_pos ⟨by rw [e1], by decide⟩]
    unfold doS
    rw [e3, if_neg (by simp)]
    have hd : doneG (text4 abc [98, 99] [3, 4] 2) (splitCh 3 ((textF abc).length + 1) 1) = (text4 abc [98, 99] [3, 4] 2, 0) := rfl
    simp only
    rw [hd, if_neg (by simp)]
    rfl
  have eq : splQ (textF abc) 3 1 = ⟨text4 [97] [98, 99] [3, 4] 2, [mkCh 4 (restN (textF abc) 3 1), inCh 4 2 1, treeCh 2 4 3 0, splitCh 3 4 1, daCh 3 1 2 []], 0⟩ := by
    unfold splQ putS
    rw [e4]
    have ep : replP (nodeAt (text4 abc [98, 99] [3, 4] 2) 3).data 1 (restL (textF abc) 3 1).length [] = ([97], 0) := by decide
    simp only
    rw [ep, if_neg (by simp)]
    have ec : putC (text4 abc [98, 99] [3, 4] 2) 3 1 (restL (textF abc) 3 1).length [] = daCh 3 1 2 [] := by
      rw [qg5, ep]
      rfl
    rw [ec]
    unfold doS
    rw [if_neg (by simp)]
    have hd : doneG (text4 abc [98, 99] [3, 4] 2) (daCh 3 1 2 []) = (text4 [97] [98, 99] [3, 4] 2, 0) := by
      rw [show doneG (text4 abc [98, 99] [3, 4] 2) (daCh 3 1 2 []) = doneW (text4 abc [98, 99] [3, 4] 2) 3 [97] from rfl]
      unfold doneW
      rw [show datF (text4 abc [98, 99] [3, 4] 2) 3 [97] = text4 [97] [98, 99] [3, 4] 2 from rfl, if_pos (by rw [qb]; exact qd9 _ _ (by decide) (by decide))]
    simp only
    rw [hd, if_neg (by simp)]
    rfl
  have := qly (textF abc) 3 1 hf (by omega) (by omega)
  unfold splitA at this
  rw [hcf, if_neg (by omega), if_neg (by omega), eq, if_neg (by simp)] at this
  exact ⟨_, _, rfl, rfl, rfl, this⟩
theorem qkb : PureC Tryz.prog 18 [fav (textF [97]), iav 3] (.tup [.imm (.sl (([97] : List Int).map u16)), iav 0]) := by
  have := qhs (textF [97]) 3 (qff _ (by decide)) (qg6 _ (by decide) true) (by decide)
  rw [show wholeP (textF [97]) 3 = [97] by
    unfold wholeP
    rw [if_neg (by decide)]
    have e : idx (nodeAt (textF [97]) (nodeAt (textF [97]) 3).parent).kids 3 = 0 := by decide
    rw [e]
    have t3 : txt (textF [97]) 3 = true := by unfold txt; rw [qb]; exact .inl rfl
    rw [show (nodeAt (textF [97]) (nodeAt (textF [97]) 3).parent).kids = [3] from rfl]
    simp [leftN, runGo, t3]
    rfl] at this
  exact this
theorem qkc : PureC Tryz.prog 14 [] (bav true) := by
  obtain ⟨L1, hL1, r1⟩ := qj9
  obtain ⟨g, L2, hg, hd, hL2, r2⟩ := qka
  have r3 := qkb
  have t1 := qj8 abc
  have t2 := qj8 [97]
  have hgm : (g.map Node.iv).length = 4 := by rw [List.length_map, hg]
  have hm1 : (L1.map Change.iv).length = 1 := by rw [List.length_map, hL1]
  have hm2 : (L2.map Change.iv).length = 5 := by rw [List.length_map, hL2]
  have hg3 : (atI g 3).data = [98, 99] := by
    rw [← hd, qaf ⟨by omega, by omega⟩]
    rfl
  have s1 := qf5 [97, 120] [97, 120] (by simp) (by simp)
  have s2 := qf5 (atI g 3).data [98, 99] (by rw [hg3]; simp) (by simp)
  rw [show dec (([97, 120] : List Int) = [97, 120]) = true by rw [qb]] at s1
  rw [show dec ((atI g 3).data = [98, 99]) = true by rw [qb]; exact hg3] at s2
  have ht3 : (textF [97, 120]).length = 3 := rfl
  have hx2 : (atI (textF [97, 120]) 2).data = [97, 120] := rfl
  have hm3 : ((textF [97, 120]).map Node.iv).length = 3 := rfl
  refine yq tabs Tryz.func14 89 [.tmp 0] rfl rfl rfl rfl rfl ?_; intro w0 X
  (repeat' (first | ((with_reducible show AL _ _ _ _ _); first | refine yb9 0 (h1 := []) (env1 := [(11, .imm (.sl (abc.map u16)))]) (abc.map u16) rfl rfl ⟨⟨_, rfl, rfl⟩, trivial⟩ rfl rfl rfl (Nat.zero_le _) ?_ | refine yb9 0 (h1 := []) (env1 := [(12, fav (textF abc)), (13, .imm (.sl (([120] : List Int).map u16)))]) (([120] : List Int).map u16) rfl rfl ⟨⟨_, rfl, rfl⟩, ⟨_, rfl, rfl⟩, trivial⟩ rfl rfl rfl (Nat.zero_le _) ?_ | refine yb9 1 (h1 := [⟨24, 1, [[.imm (.sl ((textF [97, 120]).map Node.iv))]]⟩]) (env1 := [(1, .ptr 0 1 0 0), (2, .imm (.sl ((L1).map Change.iv))), (3, iav 0), (19, .imm (.sl (abc.map u16)))]) (abc.map u16) rfl rfl ⟨⟨_, rfl, rfl⟩, ⟨_, rfl, rfl⟩, ⟨_, rfl, rfl⟩, ⟨_, rfl, rfl⟩, trivial⟩ rfl rfl rfl (Nat.zero_le _) ?_ | refine yb9 2 (h1 := [⟨24, 1, [[.imm (.sl ((textF [97, 120]).map Node.iv))]]⟩, ⟨24, 1, [[.imm (.sl ((g).map Node.iv))]]⟩]) (env1 := [(1, .ptr 0 1 0 0), (2, .imm (.sl ((L1).map Change.iv))), (3, iav 0), (4, .ptr 1 1 0 0), (5, iav 4), (6, .imm (.sl ((L2).map Change.iv))), (7, iav 0), (27, .imm (.sl (([97] : List Int).map u16)))]) (([97] : List Int).map u16) rfl rfl ⟨⟨_, rfl, rfl⟩, ⟨_, rfl, rfl⟩, ⟨_, rfl, rfl⟩, ⟨_, rfl, rfl⟩, ⟨_, rfl, rfl⟩, ⟨_, rfl, rfl⟩, ⟨_, rfl, rfl⟩, ⟨_, rfl, rfl⟩, trivial⟩ rfl rfl rfl (Nat.zero_le _) ?_ | (refine AL.step tabs rfl ?_; try dsimp only [len, List.nil_append, List.cons_append]) | refine AL.op rfl (yb rfl rfl rfl rfl t1 rfl) ?_ | refine AL.op rfl (yb rfl rfl rfl rfl t2 rfl) ?_ | refine AL.op rfl (yas rfl rfl rfl rfl s1 rfl rfl) ?_ | refine AL.op rfl (yas rfl rfl rfl rfl s2 rfl rfl) ?_ | refine AL.op rfl (yb rfl rfl rfl rfl r1 rfl) ?_ | refine AL.op rfl (yb rfl rfl rfl rfl r2 rfl) ?_ | refine AL.op rfl (yb rfl rfl rfl rfl r3 rfl) ?_ | refine ym ?_ | (refine yj rfl rfl rfl (fun hc => ?_) (fun hc => ?_) <;> (fail_if_success (exact absurd hc (by decide))) <;> (try simp only [hsx] at hc) <;> (try first | omega | contradiction | (simp [qa] at hc; done))) | (refine AL.op rfl (ye tabs rfl rfl rfl rfl rfl rfl rfl (fun _ => rfl) (by decide) (by omega) (by omega)) ?_)) | refine yn ?_ | refine yc ?_ | refine ya ?_ | refine yf ?_ | refine yh rfl ?_ | refine yg rfl ?_ | (refine yk rfl (fun hc => ?_) (fun hc => ?_) <;> (try simp only [hsx] at hc) <;> (try first | omega | contradiction | (simp [qa] at hc; done))) | refine yo ?_ | refine yd ?_))
  refine RQ.fin rfl rfl (congrArg bav ?_); simp [qa]
open Go.RowKit
section
variable {C : Cx} {s : St} {o : Oper} {T : List (Nat × TI)} {l : List Oper}
theorem LS.lit0 (hT : TsOK C.P T) (hw : awant l s o = some true) (hd : dok C.nt o.dst = true) {t e : TypeId} {ps : Array (Nat × Operand)} (ho : o.op = .buildSlice t 0 ps) (hp : ps.toList = []) {i ie : TI} (hi : look T t = some i) (hk : i.kd = .sl e) (hie : look T e = some ie) : LS C l s o (mkFx l s o (.val .nocap) []) :=
  yav [] hw fun s' hl => ybu hT hd ho hp hi hk hie
end
theorem qn0 (f : List Node) (h : Int) (hf : Fit f) (he : cfP f h true = 0) : PureC Tryz.prog 18 [fav f, iav h] (.tup [.imm (.sl ((wholeP f h).map u16)), iav 0]) := by
  by_cases hp : (nodeAt f h).parent = 0
  · rw [show wholeP f h = (nodeAt f h).data by unfold wholeP; rw [if_pos hp]]
    exact qlq f h hf he hp
  · exact qhs f h hf he hp
section
variable {f g : List Node} {h off : Int} (hr : rightP f) (hh : inR f h) (ht : textB (nodeAt f h).kind) (h0 : 0 ≤ off) (ho : off ≤ (nodeAt f h).data.length) (hdl : (nodeAt f h).data.length ≤ 1000000000) (S : SplitO f h off g)
include hr hh ht h0 ho hdl S
end
theorem qkd (f : List Node) (h : Int) (hf : Fit f) (hr : rightP f) : (wholeP f h).length ≤ 1000000000 := by
  have key : ∀ (t : Int → Bool) (l : List Int) (m : Nat), (∀ k ∈ l, (nodeAt f k).data.length ≤ m) → (runGo f t l).length ≤ l.length * m := by
    intro t l m
    induction l with
    | nil => intro _; simp [runGo]
    | cons x l ih =>
      intro hl
      unfold runGo
      split
      · have h1 := hl x (by simp)
        have h2 := ih fun k hk => hl k (by simp [hk])
        rw [List.length_append, List.length_cons, Nat.succ_mul]
        omega
      · simp
  have hd : ∀ k, (nodeAt f k).data.length ≤ 16384 := by
    intro k
    by_cases hk : inR f k
    · have := (qag hr hk).1.2.2.1.1
      omega
    · rw [qa2 hk]; simp [n0]
  unfold wholeP
  split
  · have := hd h; omega
  · have h1 := key (txt f) ((nodeAt f (nodeAt f h).parent).kids.drop (leftN (txt f) (nodeAt f (nodeAt f h).parent).kids (idx (nodeAt f (nodeAt f h).parent).kids h).toNat)) 16384 fun k _ => hd k
    have h2 := qcd hr (nodeAt f h).parent
    refine Nat.le_trans h1 ?_
    rw [List.length_drop]
    omega
end Go.Proofs.YtmhejcnaanocpaaGreat.A
