/- ChardataParts: a text that is split has its data in two, beside one another, and is one whole as before. -/
import Derived.Test.YtmhejcnaanocpaaGreatCDOneGrpBA
import Derived.Test.YtmhejcnaanocpaaGreatCDOneGrpAM
import Derived.Test.YtmhejcnaanocpaaGreatCDOneGrpAL
namespace Go.Proofs.YtmhejcnaanocpaaGreat.A
set_option linter.unusedVariables false
set_option linter.unusedSimpArgs false
set_option maxRecDepth 100000
set_option maxHeartbeats 4000000
theorem whole_c (f : List Node) (h : Int) (hf : Fit f) (he : cfP f h true = 0) : PureC Tryz.prog 18 [fav f, iav h] (.tup [.imm (.sl ((wholeP f h).map u16)), iav 0]) := by
  by_cases hp : (nodeAt f h).parent = 0
  · rw [show wholeP f h = (nodeAt f h).data by unfold wholeP; rw [if_pos hp]]
    exact whole0_c f h hf he hp
  · exact whole1_c f h hf he hp
theorem leftN_congr (t t' : Int → Bool) (l l' : List Int) : ∀ j : Nat, (∀ k : Nat, k < j → t (atI l k) = t' (atI l' k)) → leftN t l j = leftN t' l' j
  | 0, _ => rfl
  | j + 1, h => by
    unfold leftN
    rw [h j (Nat.lt_succ_self j), leftN_congr t t' l l' j fun k hk => h k (Nat.lt_succ_of_lt hk)]
theorem runGo_congr (f g : List Node) : ∀ l : List Int, (∀ k ∈ l, txt g k = txt f k ∧ (nodeAt g k).data = (nodeAt f k).data) → runGo g (txt g) l = runGo f (txt f) l
  | [], _ => rfl
  | x :: l, h => by
    unfold runGo
    rw [(h x (by simp)).1, (h x (by simp)).2, runGo_congr f g l fun k hk => h k (by simp [hk])]
theorem runGo_ins (f g : List Node) (h x : Int) (B : List Int) (hh : txt f h = true) (hh' : txt g h = true) (hx : txt g x = true) (hd : (nodeAt g h).data ++ (nodeAt g x).data = (nodeAt f h).data) (hB : ∀ k ∈ B, txt g k = txt f k ∧ (nodeAt g k).data = (nodeAt f k).data) : ∀ A : List Int, (∀ k ∈ A, txt g k = txt f k ∧ (nodeAt g k).data = (nodeAt f k).data) → runGo g (txt g) (A ++ h :: x :: B) = runGo f (txt f) (A ++ h :: B)
  | [], _ => by
    simp only [List.nil_append]
    rw [runGo, if_pos hh', runGo, if_pos hx, runGo, if_pos hh, ← List.append_assoc, hd, runGo_congr f g B hB]
  | y :: A, hA => by
    simp only [List.cons_append]
    rw [runGo, runGo, (hA y (by simp)).1, (hA y (by simp)).2, runGo_ins f g h x B hh hh' hx hd hB A fun k hk => hA k (by simp [hk])]
section
variable {f g : List Node} {h off : Int} (hr : rightP f) (hh : inR f h) (ht : textB (nodeAt f h).kind) (h0 : 0 ≤ off) (ho : off ≤ (nodeAt f h).data.length) (hdl : (nodeAt f h).data.length ≤ 1000000000) (S : SplitO f h off g)
include hr hh ht h0 ho hdl S
theorem so_h : nodeAt g h = { nodeAt f h with data := (nodeAt f h).data.take off.toNat } := by
  have _ := hr; have _ := hh; have _ := ht; have _ := h0; have _ := ho; have _ := hdl
  rw [S.node, if_pos rfl]
theorem so_x : nodeAt g (f.length + 1) = { restN f h off with parent := (nodeAt f h).parent } := by
  have _ := ht; have _ := h0; have _ := ho; have _ := hdl
  have h1 := hh.1
  have h2 := hh.2
  rw [S.node, if_neg (by omega), if_neg, if_pos rfl]
  rintro ⟨hp, e⟩
  obtain ⟨hq, _⟩ := right_mem hr hh hp
  have := hq.2
  omega
theorem so_k {k : Int} (k1 : k ≠ h) (k2 : k ≠ f.length + 1) : (nodeAt g k).kind = (nodeAt f k).kind ∧ (nodeAt g k).data = (nodeAt f k).data := by
  have _ := hr; have _ := hh; have _ := ht; have _ := h0; have _ := ho; have _ := hdl
  rw [S.node, if_neg k1]
  by_cases hq : (nodeAt f h).parent ≠ 0 ∧ k = (nodeAt f h).parent
  · rw [if_pos hq, hq.2]
    exact ⟨rfl, rfl⟩
  · rw [if_neg hq, if_neg k2]
    exact ⟨rfl, rfl⟩
theorem so_txt {k : Int} (k1 : k ≠ h) (k2 : k ≠ f.length + 1) : txt g k = txt f k ∧ (nodeAt g k).data = (nodeAt f k).data := by
  obtain ⟨a, b⟩ := so_k hr hh ht h0 ho hdl S k1 k2
  exact ⟨by unfold txt; rw [a], b⟩
theorem so_both : (nodeAt g h).data ++ (nodeAt g (f.length + 1)).data = (nodeAt f h).data := by
  rw [so_h hr hh ht h0 ho hdl S, so_x hr hh ht h0 ho hdl S]
  show (nodeAt f h).data.take off.toNat ++ restL f h off = _
  rw [rest_eq f h off h0 hdl ho, List.take_append_drop]
theorem so_cf : cfP g h true = 0 := by
  refine cf0 S.right ⟨hh.1, by have := hh.2; have := S.len; omega⟩ (.inl ?_) (fun _ => ?_) <;>
  · rw [so_h hr hh ht h0 ho hdl S]
    exact ht
theorem so_whole (hp : (nodeAt f h).parent ≠ 0) : wholeP g h = wholeP f h := by
  obtain ⟨hq, hm⟩ := right_mem hr hh hp
  obtain ⟨i, i0, i1, hi⟩ := mem_atI hm
  have hnd := right_dup hr hq
  have ei := idx_at hnd i0 i1
  have hqh : (nodeAt f h).parent ≠ h := fun e => (text_data ht).2.1 (node_self hr hh e)
  have hqx : (nodeAt f h).parent ≠ f.length + 1 := by have := hq.2; omega
  have hgq : nodeAt g (nodeAt f h).parent = { nodeAt f (nodeAt f h).parent with kids := insAt (nodeAt f (nodeAt f h).parent).kids (placeP f h + 1) (f.length + 1) } := by
    rw [S.node, if_neg hqh, if_pos ⟨hp, rfl⟩]
  have hgp : (nodeAt g h).parent = (nodeAt f h).parent := by rw [so_h hr hh ht h0 ho hdl S]
  have hpl : placeP f h = i := by have e := ei; rw [hi] at e; unfold placeP; omega
  have hlx : ∀ k ∈ (nodeAt f (nodeAt f h).parent).kids, k ≠ f.length + 1 := fun k hk => by
    have := (right_par hr hq hk).1.2
    omega
  obtain ⟨l, hl⟩ : ∃ l, l = (nodeAt f (nodeAt f h).parent).kids := ⟨_, rfl⟩
  unfold wholeP
  rw [hgp, if_neg hp, if_neg hp, hgq, hpl]
  simp only
  rw [← hl] at i1 hi hnd ei hm hlx ⊢
  rw [hi] at ei
  have hsp : l = l.take i.toNat ++ h :: l.drop (i + 1).toNat := by
    have := drop_next i0 i1
    rw [hi] at this
    rw [← this, List.take_append_drop]
  have hins : insAt l (i + 1) (f.length + 1) = l.take i.toNat ++ h :: ((f.length : Int) + 1) :: l.drop (i + 1).toNat := by
    unfold insAt
    rw [take_next i0 i1, hi]
    simp
  rw [ei]
  have hnd' := hnd
  rw [hsp, List.nodup_append] at hnd'
  obtain ⟨n1, n2, n3⟩ := hnd'
  rw [List.nodup_cons] at n2
  have hA : ∀ k ∈ l.take i.toNat, k ≠ h := fun k hk e => n3 k hk h (by simp) e
  have hB : ∀ k ∈ l.drop (i + 1).toNat, k ≠ h := fun k hk e => n2.1 (e ▸ hk)
  have hlen : (l.take i.toNat).length = i.toNat := by simp; omega
  have ei' : idx (insAt l (i + 1) (f.length + 1)) h = i := by
    have hg : inR g (nodeAt f h).parent := ⟨hq.1, by have := hq.2; have := S.len; omega⟩
    have hndg := right_dup S.right hg
    rw [hgq] at hndg
    simp only at hndg
    rw [← hl, hpl] at hndg
    have hlg : (insAt l (i + 1) (f.length + 1)).length = l.length + 1 := insAt_len _ _ _ (by omega) (by omega)
    have := idx_at hndg (j := i) i0 (by omega)
    rw [show atI (insAt l (i + 1) (f.length + 1)) i = h by
      rw [hins]
      unfold atI
      rw [List.getD_eq_getElem?_getD, List.getElem?_append_right (by omega), hlen]
      simp] at this
    exact this
  rw [ei']
  have hleft : leftN (txt g) (insAt l (i + 1) (f.length + 1)) i.toNat = leftN (txt f) l i.toNat := by
    refine leftN_congr _ _ _ _ _ fun k hk => ?_
    have hk1 : atI (insAt l (i + 1) (f.length + 1)) k = atI l k := by
      rw [hins]
      unfold atI
      rw [List.getD_eq_getElem?_getD, List.getD_eq_getElem?_getD, Int.toNat_natCast, List.getElem?_append_left (by omega)]
      rw [List.getElem?_take_of_lt hk]
    rw [hk1]
    have hmem : atI l (k : Int) ∈ l.take i.toNat := by
      refine List.mem_of_getElem? (i := k) ?_
      rw [List.getElem?_take_of_lt hk]
      have := atI_get (xs := l) (j := (k : Int)) (by omega) (by omega)
      rw [Int.toNat_natCast] at this
      exact this
    exact (so_txt hr hh ht h0 ho hdl S (hA _ hmem) (hlx _ (List.mem_of_mem_take hmem))).1
  rw [hleft]
  obtain ⟨m, hm'⟩ : ∃ m, m = leftN (txt f) l i.toNat := ⟨_, rfl⟩
  have hmi : m ≤ i.toNat := by rw [hm']; exact leftN_le _ _ _
  rw [← hm', hins]
  have e1 : (l.take i.toNat ++ h :: ((f.length : Int) + 1) :: l.drop (i + 1).toNat).drop m = (l.take i.toNat).drop m ++ h :: ((f.length : Int) + 1) :: l.drop (i + 1).toNat := List.drop_append_of_le_length (by omega)
  have e2 : l.drop m = (l.take i.toNat).drop m ++ h :: l.drop (i + 1).toNat := by
    have := List.drop_append_of_le_length (l₁ := l.take i.toNat) (l₂ := h :: l.drop (i + 1).toNat) (i := m) (by omega)
    rw [← hsp] at this
    exact this
  rw [e1, e2]
  have th : txt f h = true := by unfold txt; rw [dec_true]; exact ht
  have tg : txt g h = true := by unfold txt; rw [dec_true, so_h hr hh ht h0 ho hdl S]; exact ht
  have tx : txt g (f.length + 1) = true := by unfold txt; rw [dec_true, so_x hr hh ht h0 ho hdl S]; exact .inl rfl
  refine runGo_ins f g h (f.length + 1) _ th tg tx (so_both hr hh ht h0 ho hdl S) (fun k hk => ?_) _ (fun k hk => ?_)
  · exact so_txt hr hh ht h0 ho hdl S (hB k hk) (hlx _ (List.mem_of_mem_drop hk))
  · have := List.mem_of_mem_drop hk
    exact so_txt hr hh ht h0 ho hdl S (hA k this) (hlx _ (List.mem_of_mem_take this))
end
theorem partsNo_c (f : List Node) (h off w : Int) (hw : w ≠ 0) (c1 : PureC Tryz.prog 12 [fav f, iav h, u32 off] (.tup [fav [], iav 0, .imm (.sl []), iav w])) : PureC Tryz.prog 4 [fav f, iav h, u32 off] (bav true) := by
  refine PureC.mk tabs Tryz.func4 134 [.tmp 6] rfl rfl rfl rfl rfl ?_; intro w0 X
  (repeat' (first | ((with_reducible show AL _ _ _ _ _); first | (refine AL.step tabs rfl ?_; try dsimp only [len, List.nil_append, List.cons_append]) | refine AL.op rfl (OpOK.call rfl rfl rfl rfl lives_c rfl) ?_ | refine AL.op rfl (OpOK.call rfl rfl rfl rfl c1 rfl) ?_ | refine AL.nil ?_ | (refine AL.gsplitE rfl rfl rfl (fun hc => ?_) (fun hc => ?_) <;> (fail_if_success (exact absurd hc (by decide))) <;> (try simp only [hsx] at hc) <;> (try first | (exfalso; omega) | contradiction | (exfalso; simp [dec_eq] at hc; done))) | (refine AL.op rfl (OpOK.ari64 rfl rfl rfl rfl rfl (by omega) (by omega)) ?_) | (refine AL.op rfl (OpOK.index_map tabs rfl rfl rfl rfl rfl rfl rfl (fun _ => rfl) (by decide) (by omega) (by omega)) ?_)) | ((with_reducible show DQ _ _ _ _ _ _); first | refine DQ.stepc (LS.val tabs rfl rfl rfl) rfl rfl rfl rfl rfl ?_ | refine DQ.stepc (LS.skip rfl rfl) rfl rfl rfl rfl rfl ?_ | refine DQ.nilM (by kernel_rfl) ?_ | refine DQ.stepc (LS.ari64 rfl rfl rfl rfl rfl rfl (by omega) (by omega)) rfl rfl rfl rfl rfl ?_ | refine DQ.stepc (LS.index_map tabs rfl rfl rfl rfl rfl rfl rfl rfl (fun _ => rfl) (by decide) (by omega) (by omega)) rfl rfl rfl rfl rfl ?_ | (refine DQ.gsplitE rfl rfl rfl (fun hc => ?_) (fun hc => ?_) <;> (fail_if_success (exact absurd hc (by decide))) <;> (try simp only [hsx] at hc) <;> (try first | (exfalso; omega) | contradiction | (exfalso; simp [dec_eq] at hc; done)))) | refine AW.seq ?_ | refine AW.region ?_ | refine Then.norm ?_ | refine AW.skip ?_ | refine AW.condT rfl ?_ | refine AW.condF rfl ?_ | (refine AW.cond rfl (fun hc => ?_) (fun hc => ?_) <;> (try simp only [hsx] at hc) <;> (try first | (exfalso; omega) | contradiction | (exfalso; simp [dec_eq] at hc; done))) | refine AW.ret ?_ | refine Then.ret ?_ | refine AW.drawW mixed (by kernel_rfl) ?_))
  all_goals first
    | exact RQ.fin rfl rfl rfl
    | (exfalso; exact hw hc)
theorem parts_core (f g : List Node) (L : List Change) (h off : Int) (a b : List Int) (hf : f.length ≤ 1000000000) (hg : g.length ≤ 1000000000) (hgl : g.length = f.length + 1) (h1 : 1 ≤ h) (h2 : h ≤ f.length) (h0 : 0 ≤ off) (h3 : off < 4294967296)
    (c1 : PureC Tryz.prog 12 [fav f, iav h, u32 off] (.tup [fav g, iav (f.length + 1), .imm (.sl (L.map Change.iv)), iav 0])) (w1 : PureC Tryz.prog 18 [fav f, iav h] (.tup [.imm (.sl (a.map u16)), iav 0])) (w2 : PureC Tryz.prog 18 [fav g, iav h] (.tup [.imm (.sl (b.map u16)), iav 0]))
    (ha : a.length ≤ 1000000000) (hb : b.length ≤ 1000000000) (hd1 : (atI g (h - 1)).data.length ≤ 1000000) (hd2 : (atI g ((f.length : Int) + 1 - 1)).data.length ≤ 1000000) (hd3 : (atI f (h - 1)).data.length ≤ 1000000)
    (hdl : ((atI g (h - 1)).data.length : Int) = off) (hboth : (atI g (h - 1)).data ++ (atI g ((f.length : Int) + 1 - 1)).data = (atI f (h - 1)).data) (hpar : (atI f (h - 1)).parent = 0 → (atI g ((f.length : Int) + 1 - 1)).parent = 0) (hwh : (atI f (h - 1)).parent ≠ 0 → a = b) : PureC Tryz.prog 4 [fav f, iav h, u32 off] (bav true) := by
  have hmf : (f.map Node.iv).length = f.length := List.length_map _
  have hmg : (g.map Node.iv).length = g.length := List.length_map _
  have s1 := same_c ((atI g (h - 1)).data ++ (atI g ((f.length : Int) + 1 - 1)).data) (atI f (h - 1)).data (by rw [List.length_append]; omega) (by omega)
  rw [show dec ((atI g (h - 1)).data ++ (atI g ((f.length : Int) + 1 - 1)).data = (atI f (h - 1)).data) = true by rw [dec_true]; exact hboth] at s1
  have s2 := same_c a b ha hb
  have hmd : ((atI g (h - 1)).data.map u16).length = (atI g (h - 1)).data.length := List.length_map _
  refine PureC.mk tabs Tryz.func4 134 [.tmp 6] rfl rfl rfl rfl rfl ?_; intro w0 X
  refine AW.reserve 55 1 rfl ?_
  (repeat' (first | ((with_reducible show AL _ _ _ _ _); first | (refine AL.step tabs rfl ?_; try dsimp only [len, List.nil_append, List.cons_append]) | refine AL.op rfl (OpOK.call rfl rfl rfl rfl lives_c rfl) ?_ | refine AL.op rfl (OpOK.call rfl rfl rfl rfl c1 rfl) ?_ | refine AL.op rfl (OpOK.call rfl rfl rfl rfl w1 rfl) ?_ | refine AL.op rfl (OpOK.call rfl rfl rfl rfl w2 rfl) ?_ | refine AL.op rfl (OpOK.call rfl rfl rfl rfl s2 rfl) ?_ | refine AL.nil ?_ | (refine AL.gsplitE rfl rfl rfl (fun hc => ?_) (fun hc => ?_) <;> (fail_if_success (exact absurd hc (by decide))) <;> (try simp only [hsx] at hc) <;> (try first | (exfalso; omega) | contradiction | (exfalso; simp [dec_eq] at hc; done))) | (refine AL.op rfl (OpOK.ari64 rfl rfl rfl rfl rfl (by omega) (by omega)) ?_) | (refine AL.op rfl (OpOK.index_map tabs rfl rfl rfl rfl rfl rfl rfl (fun _ => rfl) (by decide) (by omega) (by omega)) ?_)) | ((with_reducible show DQ _ _ _ _ _ _); first | refine DQ.stepc (LS.val tabs rfl rfl rfl) rfl rfl rfl rfl rfl ?_ | refine DQ.stepc (LS.skip rfl rfl) rfl rfl rfl rfl rfl ?_ | refine DQ.nilM (by kernel_rfl) ?_ | refine DQ.stepc (LS.ari64 rfl rfl rfl rfl rfl rfl (by omega) (by omega)) rfl rfl rfl rfl rfl ?_ | refine DQ.stepc (LS.index_map tabs rfl rfl rfl rfl rfl rfl rfl rfl (fun _ => rfl) (by decide) (by omega) (by omega)) rfl rfl rfl rfl rfl ?_ | (refine DQ.gsplitE rfl rfl rfl (fun hc => ?_) (fun hc => ?_) <;> (fail_if_success (exact absurd hc (by decide))) <;> (try simp only [hsx] at hc) <;> (try first | (exfalso; omega) | contradiction | (exfalso; simp [dec_eq] at hc; done)))) | refine AW.seq ?_ | refine AW.region ?_ | refine Then.norm ?_ | refine AW.skip ?_ | refine AW.condT rfl ?_ | refine AW.condF rfl ?_ | (refine AW.cond rfl (fun hc => ?_) (fun hc => ?_) <;> (try simp only [hsx] at hc) <;> (try first | (exfalso; omega) | contradiction | (exfalso; simp [dec_eq] at hc; done))) | refine AW.ret ?_ | refine Then.ret ?_ | refine AW.drawW mixed (by kernel_rfl) ?_))
  obtain ⟨u, hue⟩ : ∃ u, u = (atI g (h - 1)).data := ⟨_, rfl⟩
  obtain ⟨v, hve⟩ : ∃ v, v = (atI g ((f.length : Int) + 1 - 1)).data := ⟨_, rfl⟩
  have hul : (atI g (h - 1)).data.map u16 = u.map u16 := by rw [hue]
  have hvl : (atI g ((f.length : Int) + 1 - 1)).data.map u16 = v.map u16 := by rw [hve]
  rw [← hue, ← hve] at s1
  have hu1 : u.length ≤ 1000000 := by rw [hue]; exact hd1
  have hv1 : v.length ≤ 1000000 := by rw [hve]; exact hd2
  by_cases hu : u = []
  · by_cases hv : v = []
    · rw [hu, hv] at s1
      (repeat' (first | ((with_reducible show AL _ _ _ _ _); first | refine AL.op rfl (OpOK.toI64 tabs rfl rfl rfl rfl rfl rfl (by omega) (by omega)) ?_ | (refine AL.step tabs rfl ?_; try dsimp only [len, List.nil_append, List.cons_append]) | refine AL.op rfl (OpOK.callfz rfl rfl rfl rfl s1 rfl rfl) ?_ | refine AL.op rfl (OpOK.call rfl rfl rfl rfl w1 rfl) ?_ | refine AL.op rfl (OpOK.call rfl rfl rfl rfl w2 rfl) ?_ | refine AL.op rfl (OpOK.call rfl rfl rfl rfl s2 rfl) ?_ | refine AL.nil ?_ | (refine AL.gsplitE rfl rfl rfl (fun hc => ?_) (fun hc => ?_) <;> (fail_if_success (exact absurd hc (by decide))) <;> (try simp only [hsx] at hc) <;> (try first | (exfalso; omega) | contradiction | (exfalso; simp [dec_eq] at hc; done))) | (refine AL.op rfl (OpOK.ari64 rfl rfl rfl rfl rfl (by omega) (by omega)) ?_) | (refine AL.op rfl (OpOK.index_map tabs rfl rfl rfl rfl rfl rfl rfl (fun _ => rfl) (by decide) (by omega) (by omega)) ?_)) | ((with_reducible show DQ _ _ _ _ _ _); first | refine DQ.stepc (LS.lit0 tabs rfl rfl rfl rfl rfl rfl rfl) rfl rfl rfl rfl rfl ?_ | refine DQ.stepc (LS.nocap0_imm tabs rfl rfl rfl rfl rfl rfl rfl rfl rfl rfl (by rw [hul, hu]; rfl)) rfl rfl rfl rfl rfl ?_ | refine DQ.stepc (LS.nocap0_imm tabs rfl rfl rfl rfl rfl rfl rfl rfl rfl rfl (by rw [hvl, hv]; rfl)) rfl rfl rfl rfl rfl ?_ | refine DQ.stepc (LS.val tabs rfl rfl rfl) rfl rfl rfl rfl rfl ?_ | refine DQ.stepc (LS.skip rfl rfl) rfl rfl rfl rfl rfl ?_ | refine DQ.nilM (by kernel_rfl) ?_ | refine DQ.stepc (LS.ari64 rfl rfl rfl rfl rfl rfl (by omega) (by omega)) rfl rfl rfl rfl rfl ?_ | refine DQ.stepc (LS.index_map tabs rfl rfl rfl rfl rfl rfl rfl rfl (fun _ => rfl) (by decide) (by omega) (by omega)) rfl rfl rfl rfl rfl ?_ | (refine DQ.gsplitE rfl rfl rfl (fun hc => ?_) (fun hc => ?_) <;> (fail_if_success (exact absurd hc (by decide))) <;> (try simp only [hsx] at hc) <;> (try first | (exfalso; omega) | contradiction | (exfalso; simp [dec_eq] at hc; done)))) | refine AW.seq ?_ | refine AW.region ?_ | refine Then.norm ?_ | refine AW.skip ?_ | refine AW.condT rfl ?_ | refine AW.condF rfl ?_ | (refine AW.cond rfl (fun hc => ?_) (fun hc => ?_) <;> (try simp only [hsx] at hc) <;> (try first | (exfalso; omega) | contradiction | (exfalso; simp [dec_eq] at hc; done))) | refine AW.ret ?_ | refine Then.ret ?_ | refine AW.drawW mixed (by kernel_rfl) ?_))
      all_goals first
        | exact RQ.fin rfl rfl (congrArg bav (by rw [dec_true]; exact hpar hc))
        | exact RQ.fin rfl rfl (congrArg bav (by rw [dec_true]; exact hwh (by assumption)))
    · rw [hu, List.nil_append] at s1
      (repeat' (first | ((with_reducible show AL _ _ _ _ _); first | refine AL.op rfl (OpOK.toI64 tabs rfl rfl rfl rfl rfl rfl (by omega) (by omega)) ?_ | (refine AL.step tabs rfl ?_; try dsimp only [len, List.nil_append, List.cons_append]) | refine AL.op rfl (OpOK.callsc rfl rfl rfl rfl (.cons (Fz.os (b := ⟨55, 1, (v.map u16).map (·.map .imm)⟩) (rows := v.map u16) rfl (List.length_map _).symm rfl) (.cons (Fz.im rfl) .nil)) s1 rfl) ?_ | refine AL.op rfl (OpOK.call rfl rfl rfl rfl w1 rfl) ?_ | refine AL.op rfl (OpOK.call rfl rfl rfl rfl w2 rfl) ?_ | refine AL.op rfl (OpOK.call rfl rfl rfl rfl s2 rfl) ?_ | refine AL.nil ?_ | (refine AL.gsplitE rfl rfl rfl (fun hc => ?_) (fun hc => ?_) <;> (fail_if_success (exact absurd hc (by decide))) <;> (try simp only [hsx] at hc) <;> (try first | (exfalso; omega) | contradiction | (exfalso; simp [dec_eq] at hc; done))) | (refine AL.op rfl (OpOK.ari64 rfl rfl rfl rfl rfl (by omega) (by omega)) ?_) | (refine AL.op rfl (OpOK.index_map tabs rfl rfl rfl rfl rfl rfl rfl (fun _ => rfl) (by decide) (by omega) (by omega)) ?_)) | ((with_reducible show DQ _ _ _ _ _ _); first | refine DQ.stepc (LS.lit0 tabs rfl rfl rfl rfl rfl rfl rfl) rfl rfl rfl rfl rfl ?_ | refine DQ.stepc (LS.nocap0_imm tabs rfl rfl rfl rfl rfl rfl rfl rfl rfl rfl (by rw [hul, hu]; rfl)) rfl rfl rfl rfl rfl ?_ | refine DQ.stepc (LS.nocap_imm 0 (rows := v.map u16) (ie := ti55) tabs rfl rfl rfl rfl rfl rfl (by decide) rfl rfl rfl rfl rfl (by rw [← hvl]; rfl) (by simpa using hv) (u16_len _) (by simp [ti55]; omega) (by simp; omega)) rfl rfl rfl rfl rfl ?_ | refine DQ.stepc (LS.val tabs rfl rfl rfl) rfl rfl rfl rfl rfl ?_ | refine DQ.stepc (LS.skip rfl rfl) rfl rfl rfl rfl rfl ?_ | refine DQ.nilM (by kernel_rfl) ?_ | refine DQ.stepc (LS.ari64 rfl rfl rfl rfl rfl rfl (by omega) (by omega)) rfl rfl rfl rfl rfl ?_ | refine DQ.stepc (LS.index_map tabs rfl rfl rfl rfl rfl rfl rfl rfl (fun _ => rfl) (by decide) (by omega) (by omega)) rfl rfl rfl rfl rfl ?_ | (refine DQ.gsplitE rfl rfl rfl (fun hc => ?_) (fun hc => ?_) <;> (fail_if_success (exact absurd hc (by decide))) <;> (try simp only [hsx] at hc) <;> (try first | (exfalso; omega) | contradiction | (exfalso; simp [dec_eq] at hc; done)))) | refine AW.seq ?_ | refine AW.region ?_ | refine Then.norm ?_ | refine AW.skip ?_ | refine AW.condT rfl ?_ | refine AW.condF rfl ?_ | (refine AW.cond rfl (fun hc => ?_) (fun hc => ?_) <;> (try simp only [hsx] at hc) <;> (try first | (exfalso; omega) | contradiction | (exfalso; simp [dec_eq] at hc; done))) | refine AW.ret ?_ | refine Then.ret ?_ | refine AW.drawW mixed (by kernel_rfl) ?_))
      all_goals first
        | exact RQ.fin rfl rfl (congrArg bav (by rw [dec_true]; exact hpar hc))
        | exact RQ.fin rfl rfl (congrArg bav (by rw [dec_true]; exact hwh (by assumption)))
  · (repeat' (first | ((with_reducible show AL _ _ _ _ _); first | refine AL.op rfl (OpOK.toI64 tabs rfl rfl rfl rfl rfl rfl (by omega) (by omega)) ?_ | (refine AL.step tabs rfl ?_; try dsimp only [len, List.nil_append, List.cons_append]) | refine AL.op rfl (OpOK.callsc rfl rfl rfl rfl (.cons (Fz.os (b := ⟨55, 1, (u.map u16).map (·.map .imm) ++ (v.map u16).map (·.map .imm)⟩) (rows := (u ++ v).map u16) rfl (by simp) (by rw [List.map_append, List.map_append])) (.cons (Fz.im rfl) .nil)) s1 rfl) ?_ | refine AL.op rfl (OpOK.call rfl rfl rfl rfl w1 rfl) ?_ | refine AL.op rfl (OpOK.call rfl rfl rfl rfl w2 rfl) ?_ | refine AL.op rfl (OpOK.call rfl rfl rfl rfl s2 rfl) ?_ | refine AL.nil ?_ | (refine AL.gsplitE rfl rfl rfl (fun hc => ?_) (fun hc => ?_) <;> (fail_if_success (exact absurd hc (by decide))) <;> (try simp only [hsx] at hc) <;> (try first | (exfalso; omega) | contradiction | (exfalso; simp [dec_eq] at hc; done))) | (refine AL.op rfl (OpOK.ari64 rfl rfl rfl rfl rfl (by omega) (by omega)) ?_) | (refine AL.op rfl (OpOK.index_map tabs rfl rfl rfl rfl rfl rfl rfl (fun _ => rfl) (by decide) (by omega) (by omega)) ?_)) | ((with_reducible show DQ _ _ _ _ _ _); first | refine DQ.stepc (LS.lit0 tabs rfl rfl rfl rfl rfl rfl rfl) rfl rfl rfl rfl rfl ?_ | refine DQ.stepc (LS.nocap_imm 0 (rows := u.map u16) (ie := ti55) tabs rfl rfl rfl rfl rfl rfl (by decide) rfl rfl rfl rfl rfl (by rw [← hul]; rfl) (by simpa using hu) (u16_len _) (by simp [ti55]; omega) (by simp; omega)) rfl rfl rfl rfl rfl ?_ | refine DQ.stepc (LS.append_imm (rows := (u.map u16).map (·.map .imm)) (rows2 := v.map u16) (ie := ti55) tabs rfl rfl rfl rfl rfl rfl rfl rfl (List.length_map _).symm rfl rfl rfl rfl (by rw [← hvl]; rfl) (u16_len _) (by simp [ti55]; omega) (by simp; omega)) rfl rfl rfl rfl rfl ?_ | refine DQ.stepc (LS.val tabs rfl rfl rfl) rfl rfl rfl rfl rfl ?_ | refine DQ.stepc (LS.skip rfl rfl) rfl rfl rfl rfl rfl ?_ | refine DQ.nilM (by kernel_rfl) ?_ | refine DQ.stepc (LS.ari64 rfl rfl rfl rfl rfl rfl (by omega) (by omega)) rfl rfl rfl rfl rfl ?_ | refine DQ.stepc (LS.index_map tabs rfl rfl rfl rfl rfl rfl rfl rfl (fun _ => rfl) (by decide) (by omega) (by omega)) rfl rfl rfl rfl rfl ?_ | (refine DQ.gsplitE rfl rfl rfl (fun hc => ?_) (fun hc => ?_) <;> (fail_if_success (exact absurd hc (by decide))) <;> (try simp only [hsx] at hc) <;> (try first | (exfalso; omega) | contradiction | (exfalso; simp [dec_eq] at hc; done)))) | refine AW.seq ?_ | refine AW.region ?_ | refine Then.norm ?_ | refine AW.skip ?_ | refine AW.condT rfl ?_ | refine AW.condF rfl ?_ | (refine AW.cond rfl (fun hc => ?_) (fun hc => ?_) <;> (try simp only [hsx] at hc) <;> (try first | (exfalso; omega) | contradiction | (exfalso; simp [dec_eq] at hc; done))) | refine AW.ret ?_ | refine Then.ret ?_ | refine AW.drawW mixed (by kernel_rfl) ?_))
    all_goals first
        | exact RQ.fin rfl rfl (congrArg bav (by rw [dec_true]; exact hpar hc))
        | exact RQ.fin rfl rfl (congrArg bav (by rw [dec_true]; exact hwh (by assumption)))
theorem whole_len (f : List Node) (h : Int) (hf : Fit f) (hr : rightP f) : (wholeP f h).length ≤ 1000000000 := by
  have key : ∀ (t : Int → Bool) (l : List Int) (m : Nat), (∀ k ∈ l, (nodeAt f k).data.length ≤ m) → (runGo f t l).length ≤ l.length * m := by
    intro t l m
    induction l with
    | nil => intro _; simp [runGo]
    | cons x l ih =>
      intro hl
      unfold runGo
      split
      · have h1 := hl x (by simp)
        have h2 := ih fun k hk => hl k (by simp [hk])
        rw [List.length_append, List.length_cons, Nat.succ_mul]
        omega
      · simp
  have hd : ∀ k, (nodeAt f k).data.length ≤ 16384 := by
    intro k
    by_cases hk : inR f k
    · have := (right_node hr hk).1.2.2.1.1
      omega
    · rw [node_out hk]; simp [n0]
  unfold wholeP
  split
  · have := hd h; omega
  · have h1 := key (txt f) ((nodeAt f (nodeAt f h).parent).kids.drop (leftN (txt f) (nodeAt f (nodeAt f h).parent).kids (idx (nodeAt f (nodeAt f h).parent).kids h).toNat)) 16384 fun k _ => hd k
    have h2 := right_few hr (nodeAt f h).parent
    refine Nat.le_trans h1 ?_
    rw [List.length_drop]
    omega
theorem parts_all (f : List Node) (h off : Int) (hf : Fit f) (h0 : 0 ≤ off) (h1 : off < 4294967296) : PureC Tryz.prog 4 [fav f, iav h, u32 off] (bav true) := by
  have hs := splitA_c f h off hf h0 h1
  unfold splitA at hs
  by_cases he : cfP f h true = 0
  · rw [if_neg (by omega)] at hs
    obtain ⟨hr, hh, ht, _⟩ := cf_right he
    have ht := ht rfl
    by_cases ho : off ≤ (nodeAt f h).data.length
    · rw [if_neg (by omega)] at hs
      by_cases hw : (splQ f h off).why = 0
      · rw [if_neg (by omega)] at hs
        obtain ⟨_, S, _⟩ := split_out hf hr hh ht h0 ho hw
        obtain ⟨g, hg⟩ : ∃ g, g = (splQ f h off).F := ⟨_, rfl⟩
        rw [← hg] at hs S
        have hdl := (hf.at h).data
        have hd16 : ∀ (k : List Node) (x : Int), rightP k → (nodeAt k x).data.length ≤ 1000000 := by
          intro k x hk
          by_cases hx : inR k x
          · have := (right_node hk hx).1.2.2.1.1
            omega
          · rw [node_out hx]; simp [n0]
        have hh1 := hh.1
        have hh2 := hh.2
        have hgl := S.len
        have ing : inR g h := ⟨hh.1, by omega⟩
        have inx : inR g (f.length + 1) := ⟨by omega, by omega⟩
        have eg := so_h hr hh ht h0 ho hdl S
        have ex := so_x hr hh ht h0 ho hdl S
        have eb := so_both hr hh ht h0 ho hdl S
        have d1 := hd16 g h S.right
        have d2 := hd16 g (f.length + 1) S.right
        have d3 := hd16 f h hr
        have dl : ((nodeAt g h).data.length : Int) = off := by rw [eg]; simp; omega
        have hp : (nodeAt f h).parent = 0 → (nodeAt g (f.length + 1)).parent = 0 := fun e => by rw [ex]; exact e
        have hq : (nodeAt f h).parent ≠ 0 → wholeP f h = wholeP g h := fun e => (so_whole hr hh ht h0 ho hdl S e).symm
        rw [node_in ing] at d1 dl eb
        rw [node_in inx] at d2 hp eb
        rw [node_in hh] at d3 eb hp hq
        exact parts_core f g _ h off (wholeP f h) (wholeP g h) hf.len S.fit.len hgl hh1 hh2 h0 h1 hs (whole_c f h hf he) (whole_c g h S.fit (so_cf hr hh ht h0 ho hdl S)) (whole_len f h hf hr) (whole_len g h S.fit S.right) d1 d2 d3 dl eb hp hq
      · rw [if_pos hw] at hs
        exact partsNo_c f h off _ hw hs
    · rw [if_pos (by omega)] at hs
      exact partsNo_c f h off _ (by omega) hs
  · rw [if_pos he] at hs
    exact partsNo_c f h off _ he hs
end Go.Proofs.YtmhejcnaanocpaaGreat.A
namespace Go.Proofs.YtmhejcnaanocpaaGreat.A
set_option linter.unusedVariables false
set_option linter.unusedSimpArgs false
set_option maxRecDepth 100000
set_option maxHeartbeats 4000000
theorem rUnits_c (a b : List Int) (hl : a.length ≤ 1000000000) : PureC Tryz.prog 72 [.imm (.sl (a.map u16)), .imm (.sl (b.map u16))] (bav (dec (a = b))) := by
  refine PureC.mk tabs Tryz.func72 26 [.tmp 4] rfl rfl rfl rfl rfl ?_; intro w0 X
  (repeat' (first | ((with_reducible show AL _ _ _ _ _); first | (refine AL.step tabs rfl ?_; try dsimp only [len, List.nil_append, List.cons_append]) | refine AL.nil ?_ | (refine AL.gsplitE rfl rfl rfl (fun hc => ?_) (fun hc => ?_) <;> (fail_if_success (exact absurd hc (by decide))) <;> (try simp only [hsx] at hc) <;> (try first | (exfalso; omega) | contradiction | (exfalso; simp [dec_eq] at hc; done))) | (refine AL.op rfl (OpOK.ari64 rfl rfl rfl rfl rfl (by omega) (by omega)) ?_) | (refine AL.op rfl (OpOK.index_map tabs rfl rfl rfl rfl rfl rfl rfl (fun _ => rfl) (by decide) (by omega) (by omega)) ?_) | (refine AL.op rfl (OpOK.eqs rfl rfl rfl rfl eqt39 rfl rfl) ?_) | (refine AL.op rfl (OpOK.eqs rfl rfl rfl rfl eqt104 rfl rfl) ?_) | (refine AL.op rfl (OpOK.eqs rfl rfl rfl rfl eqt167 rfl rfl) ?_) | (refine AL.op rfl (OpOK.eqs rfl rfl rfl rfl eqt177 rfl rfl) ?_)) | ((with_reducible show DQ _ _ _ _ _ _); first | refine DQ.stepc (LS.val tabs rfl rfl rfl) rfl rfl rfl rfl rfl ?_ | refine DQ.stepc (LS.skip rfl rfl) rfl rfl rfl rfl rfl ?_ | refine DQ.nilM (by kernel_rfl) ?_ | refine DQ.stepc (LS.ari64 rfl rfl rfl rfl rfl rfl (by omega) (by omega)) rfl rfl rfl rfl rfl ?_ | refine DQ.stepc (LS.index_map tabs rfl rfl rfl rfl rfl rfl rfl rfl (fun _ => rfl) (by decide) (by omega) (by omega)) rfl rfl rfl rfl rfl ?_ | (refine DQ.gsplitE rfl rfl rfl (fun hc => ?_) (fun hc => ?_) <;> (fail_if_success (exact absurd hc (by decide))) <;> (try simp only [hsx] at hc) <;> (try first | (exfalso; omega) | contradiction | (exfalso; simp [dec_eq] at hc; done))) | refine DQ.stepc (LS.eqs rfl rfl rfl rfl rfl eqt39 rfl rfl) rfl rfl rfl rfl rfl ?_ | refine DQ.stepc (LS.eqs rfl rfl rfl rfl rfl eqt104 rfl rfl) rfl rfl rfl rfl rfl ?_ | refine DQ.stepc (LS.eqs rfl rfl rfl rfl rfl eqt167 rfl rfl) rfl rfl rfl rfl rfl ?_ | refine DQ.stepc (LS.eqs rfl rfl rfl rfl rfl eqt177 rfl rfl) rfl rfl rfl rfl rfl ?_) | fail | refine AW.seq ?_ | refine AW.region ?_ | refine Then.norm ?_ | refine AW.skip ?_ | refine AW.block ?_ | refine InB.norm ?_ | refine AW.condT rfl ?_ | refine AW.condF rfl ?_ | (refine AW.cond rfl (fun hc => ?_) (fun hc => ?_) <;> (try simp only [hsx] at hc) <;> (try first | (exfalso; omega) | contradiction | (exfalso; simp [dec_eq] at hc; done))) | refine AW.ret ?_ | refine AW.exit ?_ | refine Then.ret ?_ | refine Then.exit ?_ | refine InB.ret ?_ | refine InB.here ?_ | refine InB.off rfl ?_ | refine Rnd.ret ?_ | refine Rnd.exit ?_ | refine AW.drawW mixed (by kernel_rfl) ?_))
  · rw [dec_neg (p := a = b) (fun e => by subst e; exact hc rfl)]
    exact RQ.fin rfl rfl rfl
  have hlen : a.length = b.length := by omega
  clear hc
  refine AW.loop (α := Int) (fun i => ⟨[(0, .imm (.sl (a.map u16))), (1, .imm (.sl (b.map u16))), (12, iav (a.map u16).length), (13, iav i)], []⟩) (fun i => 0 ≤ i ∧ i ≤ a.length ∧ a.take i.toNat = b.take i.toNat) (fun i => (a.length - i).toNat) 0 (Le.cut 0 rfl (by repeat' (first | exact trivial | refine ⟨rfl, ?_⟩)) rfl rfl (Nat.zero_le _)) ⟨by omega, by omega, rfl⟩ ?_
  intro i ⟨h0, h1, h2⟩
  (repeat' (first | ((with_reducible show AL _ _ _ _ _); first | (refine AL.step tabs rfl ?_; try dsimp only [len, List.nil_append, List.cons_append]) | refine AL.nil ?_ | (refine AL.gsplitE rfl rfl rfl (fun hc => ?_) (fun hc => ?_) <;> (fail_if_success (exact absurd hc (by decide))) <;> (try simp only [hsx] at hc) <;> (try first | (exfalso; omega) | contradiction | (exfalso; simp [dec_eq] at hc; done))) | (refine AL.op rfl (OpOK.ari64 rfl rfl rfl rfl rfl (by omega) (by omega)) ?_) | (refine AL.op rfl (OpOK.index_map tabs rfl rfl rfl rfl rfl rfl rfl (fun _ => rfl) (by decide) (by omega) (by omega)) ?_) | (refine AL.op rfl (OpOK.eqs rfl rfl rfl rfl eqt39 rfl rfl) ?_) | (refine AL.op rfl (OpOK.eqs rfl rfl rfl rfl eqt104 rfl rfl) ?_) | (refine AL.op rfl (OpOK.eqs rfl rfl rfl rfl eqt167 rfl rfl) ?_) | (refine AL.op rfl (OpOK.eqs rfl rfl rfl rfl eqt177 rfl rfl) ?_)) | ((with_reducible show DQ _ _ _ _ _ _); first | refine DQ.stepc (LS.val tabs rfl rfl rfl) rfl rfl rfl rfl rfl ?_ | refine DQ.stepc (LS.skip rfl rfl) rfl rfl rfl rfl rfl ?_ | refine DQ.nilM (by kernel_rfl) ?_ | refine DQ.stepc (LS.ari64 rfl rfl rfl rfl rfl rfl (by omega) (by omega)) rfl rfl rfl rfl rfl ?_ | refine DQ.stepc (LS.index_map tabs rfl rfl rfl rfl rfl rfl rfl rfl (fun _ => rfl) (by decide) (by omega) (by omega)) rfl rfl rfl rfl rfl ?_ | (refine DQ.gsplitE rfl rfl rfl (fun hc => ?_) (fun hc => ?_) <;> (fail_if_success (exact absurd hc (by decide))) <;> (try simp only [hsx] at hc) <;> (try first | (exfalso; omega) | contradiction | (exfalso; simp [dec_eq] at hc; done))) | refine DQ.stepc (LS.eqs rfl rfl rfl rfl rfl eqt39 rfl rfl) rfl rfl rfl rfl rfl ?_ | refine DQ.stepc (LS.eqs rfl rfl rfl rfl rfl eqt104 rfl rfl) rfl rfl rfl rfl rfl ?_ | refine DQ.stepc (LS.eqs rfl rfl rfl rfl rfl eqt167 rfl rfl) rfl rfl rfl rfl rfl ?_ | refine DQ.stepc (LS.eqs rfl rfl rfl rfl rfl eqt177 rfl rfl) rfl rfl rfl rfl rfl ?_) | refine AW.seq ?_ | refine AW.region ?_ | refine Then.norm ?_ | refine AW.skip ?_ | refine AW.block ?_ | refine InB.norm ?_ | refine AW.condT rfl ?_ | refine AW.condF rfl ?_ | (refine AW.cond rfl (fun hc => ?_) (fun hc => ?_) <;> (try simp only [hsx] at hc) <;> (try first | (exfalso; omega) | contradiction | (exfalso; simp [dec_eq] at hc; done))) | refine AW.ret ?_ | refine AW.exit ?_ | refine Then.ret ?_ | refine Then.exit ?_ | refine InB.ret ?_ | refine InB.here ?_ | refine InB.off rfl ?_ | refine Rnd.ret ?_ | refine Rnd.exit ?_ | refine AW.drawW mixed (by kernel_rfl) ?_))
  · rw [dec_neg (p := a = b) (list_ne hc)]
    exact RQ.fin rfl rfl rfl
  · refine Rnd.norm (i + 1) (Le.cut 0 rfl (by repeat' (first | exact trivial | refine ⟨rfl, ?_⟩)) rfl rfl (Nat.zero_le _)) ⟨by omega, by omega, ?_⟩ (by omega)
    rw [take_next h0 (by assumption), take_next h0 (by omega), h2, hc]
  · rw [take_end hc, take_end (by omega)] at h2
    rw [dec_pos (p := a = b) h2]; exact RQ.fin rfl rfl rfl
theorem rInts_c (a b : List Int) (hl : a.length ≤ 1000000000) : PureC Tryz.prog 73 [.imm (.sl (a.map i64)), .imm (.sl (b.map i64))] (bav (dec (a = b))) := by
  refine PureC.mk tabs Tryz.func73 26 [.tmp 4] rfl rfl rfl rfl rfl ?_; intro w0 X
  (repeat' (first | ((with_reducible show AL _ _ _ _ _); first | (refine AL.step tabs rfl ?_; try dsimp only [len, List.nil_append, List.cons_append]) | refine AL.nil ?_ | (refine AL.gsplitE rfl rfl rfl (fun hc => ?_) (fun hc => ?_) <;> (fail_if_success (exact absurd hc (by decide))) <;> (try simp only [hsx] at hc) <;> (try first | (exfalso; omega) | contradiction | (exfalso; simp [dec_eq] at hc; done))) | (refine AL.op rfl (OpOK.ari64 rfl rfl rfl rfl rfl (by omega) (by omega)) ?_) | (refine AL.op rfl (OpOK.index_map tabs rfl rfl rfl rfl rfl rfl rfl (fun _ => rfl) (by decide) (by omega) (by omega)) ?_) | (refine AL.op rfl (OpOK.eqs rfl rfl rfl rfl eqt39 rfl rfl) ?_) | (refine AL.op rfl (OpOK.eqs rfl rfl rfl rfl eqt104 rfl rfl) ?_) | (refine AL.op rfl (OpOK.eqs rfl rfl rfl rfl eqt167 rfl rfl) ?_) | (refine AL.op rfl (OpOK.eqs rfl rfl rfl rfl eqt177 rfl rfl) ?_)) | ((with_reducible show DQ _ _ _ _ _ _); first | refine DQ.stepc (LS.val tabs rfl rfl rfl) rfl rfl rfl rfl rfl ?_ | refine DQ.stepc (LS.skip rfl rfl) rfl rfl rfl rfl rfl ?_ | refine DQ.nilM (by kernel_rfl) ?_ | refine DQ.stepc (LS.ari64 rfl rfl rfl rfl rfl rfl (by omega) (by omega)) rfl rfl rfl rfl rfl ?_ | refine DQ.stepc (LS.index_map tabs rfl rfl rfl rfl rfl rfl rfl rfl (fun _ => rfl) (by decide) (by omega) (by omega)) rfl rfl rfl rfl rfl ?_ | (refine DQ.gsplitE rfl rfl rfl (fun hc => ?_) (fun hc => ?_) <;> (fail_if_success (exact absurd hc (by decide))) <;> (try simp only [hsx] at hc) <;> (try first | (exfalso; omega) | contradiction | (exfalso; simp [dec_eq] at hc; done))) | refine DQ.stepc (LS.eqs rfl rfl rfl rfl rfl eqt39 rfl rfl) rfl rfl rfl rfl rfl ?_ | refine DQ.stepc (LS.eqs rfl rfl rfl rfl rfl eqt104 rfl rfl) rfl rfl rfl rfl rfl ?_ | refine DQ.stepc (LS.eqs rfl rfl rfl rfl rfl eqt167 rfl rfl) rfl rfl rfl rfl rfl ?_ | refine DQ.stepc (LS.eqs rfl rfl rfl rfl rfl eqt177 rfl rfl) rfl rfl rfl rfl rfl ?_) | fail | refine AW.seq ?_ | refine AW.region ?_ | refine Then.norm ?_ | refine AW.skip ?_ | refine AW.block ?_ | refine InB.norm ?_ | refine AW.condT rfl ?_ | refine AW.condF rfl ?_ | (refine AW.cond rfl (fun hc => ?_) (fun hc => ?_) <;> (try simp only [hsx] at hc) <;> (try first | (exfalso; omega) | contradiction | (exfalso; simp [dec_eq] at hc; done))) | refine AW.ret ?_ | refine AW.exit ?_ | refine Then.ret ?_ | refine Then.exit ?_ | refine InB.ret ?_ | refine InB.here ?_ | refine InB.off rfl ?_ | refine Rnd.ret ?_ | refine Rnd.exit ?_ | refine AW.drawW mixed (by kernel_rfl) ?_))
  · rw [dec_neg (p := a = b) (fun e => by subst e; exact hc rfl)]
    exact RQ.fin rfl rfl rfl
  have hlen : a.length = b.length := by omega
  clear hc
  refine AW.loop (α := Int) (fun i => ⟨[(0, .imm (.sl (a.map i64))), (1, .imm (.sl (b.map i64))), (12, iav (a.map i64).length), (13, iav i)], []⟩) (fun i => 0 ≤ i ∧ i ≤ a.length ∧ a.take i.toNat = b.take i.toNat) (fun i => (a.length - i).toNat) 0 (Le.cut 0 rfl (by repeat' (first | exact trivial | refine ⟨rfl, ?_⟩)) rfl rfl (Nat.zero_le _)) ⟨by omega, by omega, rfl⟩ ?_
  intro i ⟨h0, h1, h2⟩
  (repeat' (first | ((with_reducible show AL _ _ _ _ _); first | (refine AL.step tabs rfl ?_; try dsimp only [len, List.nil_append, List.cons_append]) | refine AL.nil ?_ | (refine AL.gsplitE rfl rfl rfl (fun hc => ?_) (fun hc => ?_) <;> (fail_if_success (exact absurd hc (by decide))) <;> (try simp only [hsx] at hc) <;> (try first | (exfalso; omega) | contradiction | (exfalso; simp [dec_eq] at hc; done))) | (refine AL.op rfl (OpOK.ari64 rfl rfl rfl rfl rfl (by omega) (by omega)) ?_) | (refine AL.op rfl (OpOK.index_map tabs rfl rfl rfl rfl rfl rfl rfl (fun _ => rfl) (by decide) (by omega) (by omega)) ?_) | (refine AL.op rfl (OpOK.eqs rfl rfl rfl rfl eqt39 rfl rfl) ?_) | (refine AL.op rfl (OpOK.eqs rfl rfl rfl rfl eqt104 rfl rfl) ?_) | (refine AL.op rfl (OpOK.eqs rfl rfl rfl rfl eqt167 rfl rfl) ?_) | (refine AL.op rfl (OpOK.eqs rfl rfl rfl rfl eqt177 rfl rfl) ?_)) | ((with_reducible show DQ _ _ _ _ _ _); first | refine DQ.stepc (LS.val tabs rfl rfl rfl) rfl rfl rfl rfl rfl ?_ | refine DQ.stepc (LS.skip rfl rfl) rfl rfl rfl rfl rfl ?_ | refine DQ.nilM (by kernel_rfl) ?_ | refine DQ.stepc (LS.ari64 rfl rfl rfl rfl rfl rfl (by omega) (by omega)) rfl rfl rfl rfl rfl ?_ | refine DQ.stepc (LS.index_map tabs rfl rfl rfl rfl rfl rfl rfl rfl (fun _ => rfl) (by decide) (by omega) (by omega)) rfl rfl rfl rfl rfl ?_ | (refine DQ.gsplitE rfl rfl rfl (fun hc => ?_) (fun hc => ?_) <;> (fail_if_success (exact absurd hc (by decide))) <;> (try simp only [hsx] at hc) <;> (try first | (exfalso; omega) | contradiction | (exfalso; simp [dec_eq] at hc; done))) | refine DQ.stepc (LS.eqs rfl rfl rfl rfl rfl eqt39 rfl rfl) rfl rfl rfl rfl rfl ?_ | refine DQ.stepc (LS.eqs rfl rfl rfl rfl rfl eqt104 rfl rfl) rfl rfl rfl rfl rfl ?_ | refine DQ.stepc (LS.eqs rfl rfl rfl rfl rfl eqt167 rfl rfl) rfl rfl rfl rfl rfl ?_ | refine DQ.stepc (LS.eqs rfl rfl rfl rfl rfl eqt177 rfl rfl) rfl rfl rfl rfl rfl ?_) | refine AW.seq ?_ | refine AW.region ?_ | refine Then.norm ?_ | refine AW.skip ?_ | refine AW.block ?_ | refine InB.norm ?_ | refine AW.condT rfl ?_ | refine AW.condF rfl ?_ | (refine AW.cond rfl (fun hc => ?_) (fun hc => ?_) <;> (try simp only [hsx] at hc) <;> (try first | (exfalso; omega) | contradiction | (exfalso; simp [dec_eq] at hc; done))) | refine AW.ret ?_ | refine AW.exit ?_ | refine Then.ret ?_ | refine Then.exit ?_ | refine InB.ret ?_ | refine InB.here ?_ | refine InB.off rfl ?_ | refine Rnd.ret ?_ | refine Rnd.exit ?_ | refine AW.drawW mixed (by kernel_rfl) ?_))
  · rw [dec_neg (p := a = b) (list_ne hc)]
    exact RQ.fin rfl rfl rfl
  · refine Rnd.norm (i + 1) (Le.cut 0 rfl (by repeat' (first | exact trivial | refine ⟨rfl, ?_⟩)) rfl rfl (Nat.zero_le _)) ⟨by omega, by omega, ?_⟩ (by omega)
    rw [take_next h0 (by assumption), take_next h0 (by omega), h2, hc]
  · rw [take_end hc, take_end (by omega)] at h2
    rw [dec_pos (p := a = b) h2]; exact RQ.fin rfl rfl rfl
theorem rSameNode_c (a b : Node) (ha : FitN a) : PureC Tryz.prog 31 [a.av, b.av] (bav (dec (a = b))) := by
  have hla := ha.attrs
  refine PureC.mk tabs Tryz.func31 120 [.tmp 4] rfl rfl rfl rfl rfl ?_; intro w0 X
  (repeat' (first | ((with_reducible show AL _ _ _ _ _); first | (refine AL.step tabs rfl ?_; try dsimp only [len, List.nil_append, List.cons_append]) | refine AL.op rfl (OpOK.call rfl rfl rfl rfl (rUnits_c a.data b.data ha.data) rfl) ?_ | refine AL.op rfl (OpOK.call rfl rfl rfl rfl (rInts_c a.kids b.kids ha.kids) rfl) ?_ | refine AL.nil ?_ | (refine AL.gsplitE rfl rfl rfl (fun hc => ?_) (fun hc => ?_) <;> (fail_if_success (exact absurd hc (by decide))) <;> (try simp only [hsx] at hc) <;> (try first | (exfalso; omega) | contradiction | (exfalso; simp [dec_eq] at hc; done))) | (refine AL.op rfl (OpOK.ari64 rfl rfl rfl rfl rfl (by omega) (by omega)) ?_) | (refine AL.op rfl (OpOK.index_map tabs rfl rfl rfl rfl rfl rfl rfl (fun _ => rfl) (by decide) (by omega) (by omega)) ?_) | (refine AL.op rfl (OpOK.eqs rfl rfl rfl rfl eqt39 rfl rfl) ?_) | (refine AL.op rfl (OpOK.eqs rfl rfl rfl rfl eqt104 rfl rfl) ?_) | (refine AL.op rfl (OpOK.eqs rfl rfl rfl rfl eqt167 rfl rfl) ?_) | (refine AL.op rfl (OpOK.eqs rfl rfl rfl rfl eqt177 rfl rfl) ?_)) | ((with_reducible show DQ _ _ _ _ _ _); first | refine DQ.stepc (LS.val tabs rfl rfl rfl) rfl rfl rfl rfl rfl ?_ | refine DQ.stepc (LS.skip rfl rfl) rfl rfl rfl rfl rfl ?_ | refine DQ.nilM (by kernel_rfl) ?_ | refine DQ.stepc (LS.ari64 rfl rfl rfl rfl rfl rfl (by omega) (by omega)) rfl rfl rfl rfl rfl ?_ | refine DQ.stepc (LS.index_map tabs rfl rfl rfl rfl rfl rfl rfl rfl (fun _ => rfl) (by decide) (by omega) (by omega)) rfl rfl rfl rfl rfl ?_ | (refine DQ.gsplitE rfl rfl rfl (fun hc => ?_) (fun hc => ?_) <;> (fail_if_success (exact absurd hc (by decide))) <;> (try simp only [hsx] at hc) <;> (try first | (exfalso; omega) | contradiction | (exfalso; simp [dec_eq] at hc; done))) | refine DQ.stepc (LS.eqs rfl rfl rfl rfl rfl eqt39 rfl rfl) rfl rfl rfl rfl rfl ?_ | refine DQ.stepc (LS.eqs rfl rfl rfl rfl rfl eqt104 rfl rfl) rfl rfl rfl rfl rfl ?_ | refine DQ.stepc (LS.eqs rfl rfl rfl rfl rfl eqt167 rfl rfl) rfl rfl rfl rfl rfl ?_ | refine DQ.stepc (LS.eqs rfl rfl rfl rfl rfl eqt177 rfl rfl) rfl rfl rfl rfl rfl ?_) | refine AW.seq ?_ | refine AW.region ?_ | refine Then.norm ?_ | refine AW.skip ?_ | refine AW.block ?_ | refine InB.norm ?_ | refine AW.condT rfl ?_ | refine AW.condF rfl ?_ | (refine AW.cond rfl (fun hc => ?_) (fun hc => ?_) <;> (try simp only [hsx] at hc) <;> (try first | (exfalso; omega) | contradiction | (exfalso; simp [dec_eq] at hc; done))) | refine AW.ret ?_ | refine AW.exit ?_ | refine Then.ret ?_ | refine Then.exit ?_ | refine InB.ret ?_ | refine InB.here ?_ | refine InB.off rfl ?_ | refine Rnd.ret ?_ | refine Rnd.exit ?_ | refine AW.drawW mixed (by kernel_rfl) ?_))
  all_goals try (refine RQ.fin rfl rfl (congrArg bav ?_); rw [Bool.eq_iff_iff]; simp only [Bool.and_eq_true, dec_true, node_eq, name_eq, beq_iff_eq]; grind)
  have hlen : a.attrs.length = b.attrs.length := by grind
  refine AW.loop (α := Int) (fun i => ⟨[(2, .ptr 0 1 0 0), (3, .ptr 1 1 0 0), (31, iav (a.attrs.map Attr.iv).length), (32, iav i)], [⟨44, 16, [a.iv.map .imm]⟩, ⟨44, 16, [b.iv.map .imm]⟩]⟩) (fun i => 0 ≤ i ∧ i ≤ a.attrs.length ∧ a.attrs.take i.toNat = b.attrs.take i.toNat) (fun i => (a.attrs.length - i).toNat) 0 (Le.cut 2 rfl (by repeat' (first | exact trivial | refine ⟨rfl, ?_⟩)) rfl rfl (Nat.zero_le _)) ⟨by omega, by omega, rfl⟩ ?_
  intro i ⟨h0, h1, h2⟩
  (repeat' (first | ((with_reducible show AL _ _ _ _ _); first | (refine AL.step tabs rfl ?_; try dsimp only [len, List.nil_append, List.cons_append]) | refine AL.nil ?_ | (refine AL.gsplitE rfl rfl rfl (fun hc => ?_) (fun hc => ?_) <;> (fail_if_success (exact absurd hc (by decide))) <;> (try simp only [hsx] at hc) <;> (try first | (exfalso; omega) | contradiction | (exfalso; simp [dec_eq] at hc; done))) | (refine AL.op rfl (OpOK.ari64 rfl rfl rfl rfl rfl (by omega) (by omega)) ?_) | (refine AL.op rfl (OpOK.index_map tabs rfl rfl rfl rfl rfl rfl rfl (fun _ => rfl) (by decide) (by omega) (by omega)) ?_) | (refine AL.op rfl (OpOK.eqs rfl rfl rfl rfl eqt39 rfl rfl) ?_) | (refine AL.op rfl (OpOK.eqs rfl rfl rfl rfl eqt104 rfl rfl) ?_) | (refine AL.op rfl (OpOK.eqs rfl rfl rfl rfl eqt167 rfl rfl) ?_) | (refine AL.op rfl (OpOK.eqs rfl rfl rfl rfl eqt177 rfl rfl) ?_)) | ((with_reducible show DQ _ _ _ _ _ _); first | refine DQ.stepc (LS.val tabs rfl rfl rfl) rfl rfl rfl rfl rfl ?_ | refine DQ.stepc (LS.skip rfl rfl) rfl rfl rfl rfl rfl ?_ | refine DQ.nilM (by kernel_rfl) ?_ | refine DQ.stepc (LS.ari64 rfl rfl rfl rfl rfl rfl (by omega) (by omega)) rfl rfl rfl rfl rfl ?_ | refine DQ.stepc (LS.index_map tabs rfl rfl rfl rfl rfl rfl rfl rfl (fun _ => rfl) (by decide) (by omega) (by omega)) rfl rfl rfl rfl rfl ?_ | (refine DQ.gsplitE rfl rfl rfl (fun hc => ?_) (fun hc => ?_) <;> (fail_if_success (exact absurd hc (by decide))) <;> (try simp only [hsx] at hc) <;> (try first | (exfalso; omega) | contradiction | (exfalso; simp [dec_eq] at hc; done))) | refine DQ.stepc (LS.eqs rfl rfl rfl rfl rfl eqt39 rfl rfl) rfl rfl rfl rfl rfl ?_ | refine DQ.stepc (LS.eqs rfl rfl rfl rfl rfl eqt104 rfl rfl) rfl rfl rfl rfl rfl ?_ | refine DQ.stepc (LS.eqs rfl rfl rfl rfl rfl eqt167 rfl rfl) rfl rfl rfl rfl rfl ?_ | refine DQ.stepc (LS.eqs rfl rfl rfl rfl rfl eqt177 rfl rfl) rfl rfl rfl rfl rfl ?_) | refine AW.seq ?_ | refine AW.region ?_ | refine Then.norm ?_ | refine AW.skip ?_ | refine AW.block ?_ | refine InB.norm ?_ | refine AW.condT rfl ?_ | refine AW.condF rfl ?_ | (refine AW.cond rfl (fun hc => ?_) (fun hc => ?_) <;> (try simp only [hsx] at hc) <;> (try first | (exfalso; omega) | contradiction | (exfalso; simp [dec_eq] at hc; done))) | refine AW.ret ?_ | refine AW.exit ?_ | refine Then.ret ?_ | refine Then.exit ?_ | refine InB.ret ?_ | refine InB.here ?_ | refine InB.off rfl ?_ | refine Rnd.ret ?_ | refine Rnd.exit ?_ | refine AW.drawW mixed (by kernel_rfl) ?_))
  · rw [dec_neg (p := a = b) (fun e => by subst e; simp [dec_eq] at hc)]
    exact RQ.fin rfl rfl rfl
  · have e : atI a.attrs i = atI b.attrs i := by
      simp only [Bool.and_eq_true, dec_true] at hc
      rw [attr_eq, name_eq]; grind
    refine Rnd.norm (i + 1) (Le.cut 2 rfl (by repeat' (first | exact trivial | refine ⟨rfl, ?_⟩)) rfl rfl (Nat.zero_le _)) ⟨by omega, by omega, ?_⟩ (by omega)
    rw [take_next h0 (by assumption), take_next h0 (by omega), h2, e]
  all_goals
    have ea : a.attrs = b.attrs := by
      rw [take_end (by assumption), take_end (by omega)] at h2
      exact h2
    refine RQ.fin rfl rfl (congrArg bav ?_)
    rw [Bool.eq_iff_iff]
    simp only [Bool.and_eq_true, Bool.and_eq_false_iff, dec_true, dec_false, node_eq, name_eq, beq_iff_eq] at *
    grind
theorem rSame_c (f g : List Node) (hf : Fit f) : PureC Tryz.prog 16 [fav f, fav g] (bav (dec (f = g))) := by
  have hl := hf.len
  refine PureC.mk tabs Tryz.func16 32 [.tmp 4] rfl rfl rfl rfl rfl ?_; intro w0 X
  (repeat' (first | ((with_reducible show AL _ _ _ _ _); first | (refine AL.step tabs rfl ?_; try dsimp only [len, List.nil_append, List.cons_append]) | refine AL.nil ?_ | (refine AL.gsplitE rfl rfl rfl (fun hc => ?_) (fun hc => ?_) <;> (fail_if_success (exact absurd hc (by decide))) <;> (try simp only [hsx] at hc) <;> (try first | (exfalso; omega) | contradiction | (exfalso; simp [dec_eq] at hc; done))) | (refine AL.op rfl (OpOK.ari64 rfl rfl rfl rfl rfl (by omega) (by omega)) ?_) | (refine AL.op rfl (OpOK.index_map tabs rfl rfl rfl rfl rfl rfl rfl (fun _ => rfl) (by decide) (by omega) (by omega)) ?_) | (refine AL.op rfl (OpOK.eqs rfl rfl rfl rfl eqt39 rfl rfl) ?_) | (refine AL.op rfl (OpOK.eqs rfl rfl rfl rfl eqt104 rfl rfl) ?_) | (refine AL.op rfl (OpOK.eqs rfl rfl rfl rfl eqt167 rfl rfl) ?_) | (refine AL.op rfl (OpOK.eqs rfl rfl rfl rfl eqt177 rfl rfl) ?_)) | ((with_reducible show DQ _ _ _ _ _ _); first | refine DQ.stepc (LS.val tabs rfl rfl rfl) rfl rfl rfl rfl rfl ?_ | refine DQ.stepc (LS.skip rfl rfl) rfl rfl rfl rfl rfl ?_ | refine DQ.nilM (by kernel_rfl) ?_ | refine DQ.stepc (LS.ari64 rfl rfl rfl rfl rfl rfl (by omega) (by omega)) rfl rfl rfl rfl rfl ?_ | refine DQ.stepc (LS.index_map tabs rfl rfl rfl rfl rfl rfl rfl rfl (fun _ => rfl) (by decide) (by omega) (by omega)) rfl rfl rfl rfl rfl ?_ | (refine DQ.gsplitE rfl rfl rfl (fun hc => ?_) (fun hc => ?_) <;> (fail_if_success (exact absurd hc (by decide))) <;> (try simp only [hsx] at hc) <;> (try first | (exfalso; omega) | contradiction | (exfalso; simp [dec_eq] at hc; done))) | refine DQ.stepc (LS.eqs rfl rfl rfl rfl rfl eqt39 rfl rfl) rfl rfl rfl rfl rfl ?_ | refine DQ.stepc (LS.eqs rfl rfl rfl rfl rfl eqt104 rfl rfl) rfl rfl rfl rfl rfl ?_ | refine DQ.stepc (LS.eqs rfl rfl rfl rfl rfl eqt167 rfl rfl) rfl rfl rfl rfl rfl ?_ | refine DQ.stepc (LS.eqs rfl rfl rfl rfl rfl eqt177 rfl rfl) rfl rfl rfl rfl rfl ?_) | refine AW.seq ?_ | refine AW.region ?_ | refine Then.norm ?_ | refine AW.skip ?_ | refine AW.block ?_ | refine InB.norm ?_ | refine AW.condT rfl ?_ | refine AW.condF rfl ?_ | (refine AW.cond rfl (fun hc => ?_) (fun hc => ?_) <;> (try simp only [hsx] at hc) <;> (try first | (exfalso; omega) | contradiction | (exfalso; simp [dec_eq] at hc; done))) | refine AW.ret ?_ | refine AW.exit ?_ | refine Then.ret ?_ | refine Then.exit ?_ | refine InB.ret ?_ | refine InB.here ?_ | refine InB.off rfl ?_ | refine Rnd.ret ?_ | refine Rnd.exit ?_ | refine AW.drawW mixed (by kernel_rfl) ?_))
  · rw [dec_neg (p := f = g) (fun e => by subst e; exact hc rfl)]
    exact RQ.fin rfl rfl rfl
  have hlen : f.length = g.length := by grind
  refine AW.loop (α := Int) (fun i => ⟨[(2, .ptr 0 1 0 0), (3, .ptr 1 1 0 0), (15, iav (f.map Node.iv).length), (16, iav i)], [⟨24, 1, [[.imm (.sl (f.map Node.iv))]]⟩, ⟨24, 1, [[.imm (.sl (g.map Node.iv))]]⟩]⟩) (fun i => 0 ≤ i ∧ i ≤ f.length ∧ f.take i.toNat = g.take i.toNat) (fun i => (f.length - i).toNat) 0 (Le.cut 2 rfl (by repeat' (first | exact trivial | refine ⟨rfl, ?_⟩)) rfl rfl (Nat.zero_le _)) ⟨by omega, by omega, rfl⟩ ?_
  intro i ⟨h0, h1, h2⟩
  (repeat' (first | ((with_reducible show AL _ _ _ _ _); first | (refine AL.step tabs rfl ?_; try dsimp only [len, List.nil_append, List.cons_append]) | refine AL.nil ?_ | (refine AL.gsplitE rfl rfl rfl (fun hc => ?_) (fun hc => ?_) <;> (fail_if_success (exact absurd hc (by decide))) <;> (try simp only [hsx] at hc) <;> (try first | (exfalso; omega) | contradiction | (exfalso; simp [dec_eq] at hc; done))) | (refine AL.op rfl (OpOK.ari64 rfl rfl rfl rfl rfl (by omega) (by omega)) ?_) | (refine AL.op rfl (OpOK.index_map tabs rfl rfl rfl rfl rfl rfl rfl (fun _ => rfl) (by decide) (by omega) (by omega)) ?_) | (refine AL.op rfl (OpOK.eqs rfl rfl rfl rfl eqt39 rfl rfl) ?_) | (refine AL.op rfl (OpOK.eqs rfl rfl rfl rfl eqt104 rfl rfl) ?_) | (refine AL.op rfl (OpOK.eqs rfl rfl rfl rfl eqt167 rfl rfl) ?_) | (refine AL.op rfl (OpOK.eqs rfl rfl rfl rfl eqt177 rfl rfl) ?_)) | ((with_reducible show DQ _ _ _ _ _ _); first | refine DQ.stepc (LS.call rfl rfl rfl rfl rfl (rSameNode_c (atI f i) (atI g i) (hf.atI i (by omega) (by omega))) rfl) rfl rfl rfl rfl rfl ?_ | refine DQ.stepc (LS.val tabs rfl rfl rfl) rfl rfl rfl rfl rfl ?_ | refine DQ.stepc (LS.skip rfl rfl) rfl rfl rfl rfl rfl ?_ | refine DQ.nilM (by kernel_rfl) ?_ | refine DQ.stepc (LS.ari64 rfl rfl rfl rfl rfl rfl (by omega) (by omega)) rfl rfl rfl rfl rfl ?_ | refine DQ.stepc (LS.index_map tabs rfl rfl rfl rfl rfl rfl rfl rfl (fun _ => rfl) (by decide) (by omega) (by omega)) rfl rfl rfl rfl rfl ?_ | (refine DQ.gsplitE rfl rfl rfl (fun hc => ?_) (fun hc => ?_) <;> (fail_if_success (exact absurd hc (by decide))) <;> (try simp only [hsx] at hc) <;> (try first | (exfalso; omega) | contradiction | (exfalso; simp [dec_eq] at hc; done))) | refine DQ.stepc (LS.eqs rfl rfl rfl rfl rfl eqt39 rfl rfl) rfl rfl rfl rfl rfl ?_ | refine DQ.stepc (LS.eqs rfl rfl rfl rfl rfl eqt104 rfl rfl) rfl rfl rfl rfl rfl ?_ | refine DQ.stepc (LS.eqs rfl rfl rfl rfl rfl eqt167 rfl rfl) rfl rfl rfl rfl rfl ?_ | refine DQ.stepc (LS.eqs rfl rfl rfl rfl rfl eqt177 rfl rfl) rfl rfl rfl rfl rfl ?_) | refine AW.seq ?_ | refine AW.region ?_ | refine Then.norm ?_ | refine AW.skip ?_ | refine AW.block ?_ | refine InB.norm ?_ | refine AW.condT rfl ?_ | refine AW.condF rfl ?_ | (refine AW.cond rfl (fun hc => ?_) (fun hc => ?_) <;> (try simp only [hsx] at hc) <;> (try first | (exfalso; omega) | contradiction | (exfalso; simp [dec_eq] at hc; done))) | refine AW.ret ?_ | refine AW.exit ?_ | refine Then.ret ?_ | refine Then.exit ?_ | refine InB.ret ?_ | refine InB.here ?_ | refine InB.off rfl ?_ | refine Rnd.ret ?_ | refine Rnd.exit ?_ | refine AW.drawW mixed (by kernel_rfl) ?_))
  · rw [dec_neg (p := f = g) (list_ne hc)]
    exact RQ.fin rfl rfl rfl
  · refine Rnd.norm (i + 1) (Le.cut 2 rfl (by repeat' (first | exact trivial | refine ⟨rfl, ?_⟩)) rfl rfl (Nat.zero_le _)) ⟨by omega, by omega, ?_⟩ (by omega)
    rw [take_next h0 (by assumption), take_next h0 (by omega), h2, hc]
  · rw [take_end hc, take_end (by omega)] at h2
    rw [dec_pos (p := f = g) h2]; exact RQ.fin rfl rfl rfl
end Go.Proofs.YtmhejcnaanocpaaGreat.A
