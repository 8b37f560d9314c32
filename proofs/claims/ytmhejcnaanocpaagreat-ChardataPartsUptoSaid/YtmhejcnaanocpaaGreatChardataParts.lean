/- The law ChardataParts of package canopylaw05 is true for every input whose arguments hold together at most 1048576 values and letters: the statement 'ChardataPartsUptoSaid'. Conditions: that bound alone. -/
import Derived.Test.YtmhejcnaanocpaaGreatCPRtsGrpAW
import Derived.Test.YtmhejcnaanocpaaGreatCPRtsGrpAJ
import Derived.Test.YtmhejcnaanocpaaGreatCPRtsGrpAY
import Derived.Test.YtmhejcnaanocpaaGreatRows
import Derived.Test.YtmhejcnaanocpaaGreatCPRtsGrpAL
import Derived.ChangeArms
import Derived.WideShapes
import Derived.WalkKit
import Derived.ProofKit
import Derived.OpenShut
import Derived.ShutString
import Derived.ChangeOld
import Derived.Below
import Derived.JoinedCond
namespace Go.Proofs.YtmhejcnaanocpaaGreat.A
open Go.RowKit
set_option linter.unusedVariables false
set_option linter.unusedSimpArgs false
section
variable {C : Cx} {s : St} {o : Oper} {T : List (Nat × TI)} {l : List Oper}
theorem LS.lit0 (hT : TsOK C.P T) (hw : awant l s o = some true) (hd : dok C.nt o.dst = true) {t e : TypeId} {ps : Array (Nat × Operand)} (ho : o.op = .buildSlice t 0 ps) (hp : ps.toList = []) {i ie : TI} (hi : look T t = some i) (hk : i.kd = .sl e) (hie : look T e = some ie) : LS C l s o (mkFx l s o (.val .nocap) []) :=
  LS.quiet [] hw fun s' hl => OpOK.lit0 hT hd ho hp hi hk hie
theorem LS.nocap0_imm (hT : TsOK C.P T) (hw : awant l s o = some true) (hd : dok C.nt o.dst = true) {x y : Operand} {t tx e e2 : TypeId} (ho : o.op = .call ⟨.builtin .append, #[x, y], #[t, tx]⟩) {i i2 ie : TI} (hi : look T t = some i) (hk : i.kd = .sl e) (hie : look T e = some ie) (hx : s.ev x = some .nocap) (hi2 : look T tx = some i2) (hk2 : i2.kd = .sl e2) {rows : List (List IV)} (hy : s.ev y = some (.imm (.sl rows))) (h0 : rows = []) : LS C l s o (mkFx l s o (.val .nocap) []) :=
  LS.quiet [] hw fun s' hl => by
    have hxm : x ∈ o.op.operands.toList := by rw [ho]; simp [Op.operands, Call.operands]
    have hym : y ∈ o.op.operands.toList := by rw [ho]; simp [Op.operands, Call.operands]
    subst h0
    exact OpOK.append_nocap0 hT hd ho hi hk hie ((hl.ev x hxm).trans hx) (SrcA.imm (rows := []) hT hi2 hk2 ((hl.ev y hym).trans hy) (fun r hr => by cases hr))
theorem LS.nocap_imm (p : Nat) (hT : TsOK C.P T) (hw : awant l s o = some true) (hd : dok C.nt o.dst = true) {x y : Operand} {t tx e e2 : TypeId} (ho : o.op = .call ⟨.builtin .append, #[x, y], #[t, tx]⟩) {i i2 ie : TI} (hi : look T t = some i) (hk : i.kd = .sl e) (hie : look T e = some ie) (hpos : 0 < ie.sz) (hx : s.ev x = some .nocap)
    {sz : Nat} (hp : nth s.hp p = some ⟨e, sz, []⟩) (hsz : sz = ie.sz) (hi2 : look T tx = some i2) (hk2 : i2.kd = .sl e2) {rows : List (List IV)} (hy : s.ev y = some (.imm (.sl rows))) (hne : rows ≠ []) (hrl : ∀ r ∈ rows, r.length = ie.sz) (hbound : rows.length * ie.bytes ≤ 140737488355328) (h63 : rows.length ≤ 9223372036854775807) :
    LS C l s o (mkFx l s o (.blk p ⟨e, sz, rows.map (·.map .imm)⟩ (.os p rows.length)) [p]) :=
  LS.blk [p] hw fun s' hl => by
    have hxm : x ∈ o.op.operands.toList := by rw [ho]; simp [Op.operands, Call.operands]
    have hym : y ∈ o.op.operands.toList := by rw [ho]; simp [Op.operands, Call.operands]
    have := OpOK.append_nocap_at p hT hd ho hi hk hie hpos ((hl.ev x hxm).trans hx) ((hl.xb p (by simp)).trans hp) hsz (by simpa using hne) (SrcA.imm (rows := rows) hT hi2 hk2 ((hl.ev y hym).trans hy) hrl) (by simpa using hbound) (by simpa using h63)
    rw [List.length_map] at this
    exact this
theorem LS.append_imm (hT : TsOK C.P T) (hw : awant l s o = some true) (hd : dok C.nt o.dst = true) {x y : Operand} {t tx e e2 : TypeId} (ho : o.op = .call ⟨.builtin .append, #[x, y], #[t, tx]⟩) {i i2 ie : TI} (hi : look T t = some i) (hk : i.kd = .sl e) (hie : look T e = some ie) {id n : Nat} (hx : s.ev x = some (.os id n))
    {ty sz : Nat} {rows : List (List AV)} (hb : nth s.hp id = some ⟨ty, sz, rows⟩) (hver : n = rows.length) (hty : ty = e) (hsz : sz = ie.sz) (hi2 : look T tx = some i2) (hk2 : i2.kd = .sl e2) {rows2 : List (List IV)} (hy : s.ev y = some (.imm (.sl rows2))) (hrl : ∀ r ∈ rows2, r.length = ie.sz) (hbound : (rows.length + rows2.length) * ie.bytes ≤ 140737488355328) (h63 : rows.length + rows2.length ≤ 9223372036854775807) :
    LS C l s o (mkFx l s o (.blk id ⟨ty, sz, rows ++ rows2.map (·.map .imm)⟩ (.os id (n + rows2.length))) []) := by
  have := LS.append_os hT hw hd ho hi hk hie hx hb hver hty hsz (rows2 := rows2.map (·.map .imm)) (fun s' hl => by
    have hym : y ∈ o.op.operands.toList := by rw [ho]; simp [Op.operands, Call.operands]
    exact SrcA.imm (rows := rows2) hT hi2 hk2 ((hl.ev y hym).trans hy) hrl) (by simpa using hbound) (by simpa using h63)
  rw [List.length_map] at this
  exact this
end
end Go.Proofs.YtmhejcnaanocpaaGreat.A
namespace Go.Proofs.YtmhejcnaanocpaaGreat.A
set_option linter.unusedVariables false
set_option linter.unusedSimpArgs false
set_option maxRecDepth 100000
set_option maxHeartbeats 4000000
theorem whole_c (f : List Node) (h : Int) (hf : Fit f) (he : cfP f h true = 0) : PureC Tryz.prog 18 [fav f, iav h] (.tup [.imm (.sl ((wholeP f h).map u16)), iav 0]) := by
  by_cases hp : (nodeAt f h).parent = 0
  · rw [show wholeP f h = (nodeAt f h).data by unfold wholeP; rw [if_pos hp]]
    exact whole0_c f h hf he hp
  · exact whole1_c f h hf he hp
theorem leftN_congr (t t' : Int → Bool) (l l' : List Int) : ∀ j : Nat, (∀ k : Nat, k < j → t (atI l k) = t' (atI l' k)) → leftN t l j = leftN t' l' j
  | 0, _ => rfl
  | j + 1, h => by
    unfold leftN
    rw [h j (Nat.lt_succ_self j), leftN_congr t t' l l' j fun k hk => h k (Nat.lt_succ_of_lt hk)]
theorem runGo_congr (f g : List Node) : ∀ l : List Int, (∀ k ∈ l, txt g k = txt f k ∧ (nodeAt g k).data = (nodeAt f k).data) → runGo g (txt g) l = runGo f (txt f) l
  | [], _ => rfl
  | x :: l, h => by
    unfold runGo
    rw [(h x (by simp)).1, (h x (by simp)).2, runGo_congr f g l fun k hk => h k (by simp [hk])]
theorem runGo_ins (f g : List Node) (h x : Int) (B : List Int) (hh : txt f h = true) (hh' : txt g h = true) (hx : txt g x = true) (hd : (nodeAt g h).data ++ (nodeAt g x).data = (nodeAt f h).data) (hB : ∀ k ∈ B, txt g k = txt f k ∧ (nodeAt g k).data = (nodeAt f k).data) : ∀ A : List Int, (∀ k ∈ A, txt g k = txt f k ∧ (nodeAt g k).data = (nodeAt f k).data) → runGo g (txt g) (A ++ h :: x :: B) = runGo f (txt f) (A ++ h :: B)
  | [], _ => by
    simp only [List.nil_append]
    rw [runGo, if_pos hh', runGo, if_pos hx, runGo, if_pos hh, ← List.append_assoc, hd, runGo_congr f g B hB]
  | y :: A, hA => by
    simp only [List.cons_append]
    rw [runGo, runGo, (hA y (by simp)).1, (hA y (by simp)).2, runGo_ins f g h x B hh hh' hx hd hB A fun k hk => hA k (by simp [hk])]
section
variable {f g : List Node} {h off : Int} (hr : rightP f) (hh : inR f h) (ht : textB (nodeAt f h).kind) (h0 : 0 ≤ off) (ho : off ≤ (nodeAt f h).data.length) (hdl : (nodeAt f h).data.length ≤ 1000000000) (S : SplitO f h off g)
include hr hh ht h0 ho hdl S
theorem so_h : nodeAt g h = { nodeAt f h with data := (nodeAt f h).data.take off.toNat } := by
  have _ := hr; have _ := hh; have _ := ht; have _ := h0; have _ := ho; have _ := hdl
  rw [S.node, if_pos rfl]
theorem so_x : nodeAt g (f.length + 1) = { restN f h off with parent := (nodeAt f h).parent } := by
  have _ := ht; have _ := h0; have _ := ho; have _ := hdl
  have h1 := hh.1
  have h2 := hh.2
  rw [S.node, if_neg (by omega), if_neg, if_pos rfl]
  rintro ⟨hp, e⟩
  obtain ⟨hq, _⟩ := right_mem hr hh hp
  have := hq.2
  omega
theorem so_k {k : Int} (k1 : k ≠ h) (k2 : k ≠ f.length + 1) : (nodeAt g k).kind = (nodeAt f k).kind ∧ (nodeAt g k).data = (nodeAt f k).data := by
  have _ := hr; have _ := hh; have _ := ht; have _ := h0; have _ := ho; have _ := hdl
  rw [S.node, if_neg k1]
  by_cases hq : (nodeAt f h).parent ≠ 0 ∧ k = (nodeAt f h).parent
  · rw [if_pos hq, hq.2]
    exact ⟨rfl, rfl⟩
  · rw [if_neg hq, if_neg k2]
    exact ⟨rfl, rfl⟩
theorem so_txt {k : Int} (k1 : k ≠ h) (k2 : k ≠ f.length + 1) : txt g k = txt f k ∧ (nodeAt g k).data = (nodeAt f k).data := by
  obtain ⟨a, b⟩ := so_k hr hh ht h0 ho hdl S k1 k2
  exact ⟨by unfold txt; rw [a], b⟩
theorem so_both : (nodeAt g h).data ++ (nodeAt g (f.length + 1)).data = (nodeAt f h).data := by
  rw [so_h hr hh ht h0 ho hdl S, so_x hr hh ht h0 ho hdl S]
  show (nodeAt f h).data.take off.toNat ++ restL f h off = _
  rw [rest_eq f h off h0 hdl ho, List.take_append_drop]
theorem so_cf : cfP g h true = 0 := by
  refine cf0 S.right ⟨hh.1, by have := hh.2; have := S.len; omega⟩ (.inl ?_) (fun _ => ?_) <;>
  · rw [so_h hr hh ht h0 ho hdl S]
    exact ht
theorem so_whole (hp : (nodeAt f h).parent ≠ 0) : wholeP g h = wholeP f h := by
  obtain ⟨hq, hm⟩ := right_mem hr hh hp
  obtain ⟨i, i0, i1, hi⟩ := mem_atI hm
  have hnd := right_dup hr hq
  have ei := idx_at hnd i0 i1
  have hqh : (nodeAt f h).parent ≠ h := fun e => (text_data ht).2.1 (node_self hr hh e)
  have hqx : (nodeAt f h).parent ≠ f.length + 1 := by have := hq.2; omega
  have hgq : nodeAt g (nodeAt f h).parent = { nodeAt f (nodeAt f h).parent with kids := insAt (nodeAt f (nodeAt f h).parent).kids (placeP f h + 1) (f.length + 1) } := by
    rw [S.node, if_neg hqh, if_pos ⟨hp, rfl⟩]
  have hgp : (nodeAt g h).parent = (nodeAt f h).parent := by rw [so_h hr hh ht h0 ho hdl S]
  have hpl : placeP f h = i := by have e := ei; rw [hi] at e; unfold placeP; omega
  have hlx : ∀ k ∈ (nodeAt f (nodeAt f h).parent).kids, k ≠ f.length + 1 := fun k hk => by
    have := (right_par hr hq hk).1.2
    omega
  obtain ⟨l, hl⟩ : ∃ l, l = (nodeAt f (nodeAt f h).parent).kids := ⟨_, rfl⟩
  unfold wholeP
  rw [hgp, if_neg hp, if_neg hp, hgq, hpl]
  simp only
  rw [← hl] at i1 hi hnd ei hm hlx ⊢
  rw [hi] at ei
  have hsp : l = l.take i.toNat ++ h :: l.drop (i + 1).toNat := by
    have := drop_next i0 i1
    rw [hi] at this
    rw [← this, List.take_append_drop]
  have hins : insAt l (i + 1) (f.length + 1) = l.take i.toNat ++ h :: ((f.length : Int) + 1) :: l.drop (i + 1).toNat := by
    unfold insAt
    rw [take_next i0 i1, hi]
    simp
  rw [ei]
  have hnd' := hnd
  rw [hsp, List.nodup_append] at hnd'
  obtain ⟨n1, n2, n3⟩ := hnd'
  rw [List.nodup_cons] at n2
  have hA : ∀ k ∈ l.take i.toNat, k ≠ h := fun k hk e => n3 k hk h (by simp) e
  have hB : ∀ k ∈ l.drop (i + 1).toNat, k ≠ h := fun k hk e => n2.1 (e ▸ hk)
  have hlen : (l.take i.toNat).length = i.toNat := by simp; omega
  have ei' : idx (insAt l (i + 1) (f.length + 1)) h = i := by
    have hg : inR g (nodeAt f h).parent := ⟨hq.1, by have := hq.2; have := S.len; omega⟩
    have hndg := right_dup S.right hg
    rw [hgq] at hndg
    simp only at hndg
    rw [← hl, hpl] at hndg
    have hlg : (insAt l (i + 1) (f.length + 1)).length = l.length + 1 := insAt_len _ _ _ (by omega) (by omega)
    have := idx_at hndg (j := i) i0 (by omega)
    rw [show atI (insAt l (i + 1) (f.length + 1)) i = h by
      rw [hins]
      unfold atI
      rw [List.getD_eq_getElem?_getD, List.getElem?_append_right (by omega), hlen]
      simp] at this
    exact this
  rw [ei']
  have hleft : leftN (txt g) (insAt l (i + 1) (f.length + 1)) i.toNat = leftN (txt f) l i.toNat := by
    refine leftN_congr _ _ _ _ _ fun k hk => ?_
    have hk1 : atI (insAt l (i + 1) (f.length + 1)) k = atI l k := by
      rw [hins]
      unfold atI
      rw [List.getD_eq_getElem?_getD, List.getD_eq_getElem?_getD, Int.toNat_natCast, List.getElem?_append_left (by omega)]
      rw [List.getElem?_take_of_lt hk]
    rw [hk1]
    have hmem : atI l (k : Int) ∈ l.take i.toNat := by
      refine List.mem_of_getElem? (i := k) ?_
      rw [List.getElem?_take_of_lt hk]
      have := atI_get (xs := l) (j := (k : Int)) (by omega) (by omega)
      rw [Int.toNat_natCast] at this
      exact this
    exact (so_txt hr hh ht h0 ho hdl S (hA _ hmem) (hlx _ (List.mem_of_mem_take hmem))).1
  rw [hleft]
  obtain ⟨m, hm'⟩ : ∃ m, m = leftN (txt f) l i.toNat := ⟨_, rfl⟩
  have hmi : m ≤ i.toNat := by rw [hm']; exact leftN_le _ _ _
  rw [← hm', hins]
  have e1 : (l.take i.toNat ++ h :: ((f.length : Int) + 1) :: l.drop (i + 1).toNat).drop m = (l.take i.toNat).drop m ++ h :: ((f.length : Int) + 1) :: l.drop (i + 1).toNat := List.drop_append_of_le_length (by omega)
  have e2 : l.drop m = (l.take i.toNat).drop m ++ h :: l.drop (i + 1).toNat := by
    have := List.drop_append_of_le_length (l₁ := l.take i.toNat) (l₂ := h :: l.drop (i + 1).toNat) (i := m) (by omega)
    rw [← hsp] at this
    exact this
  rw [e1, e2]
  have th : txt f h = true := by unfold txt; rw [dec_true]; exact ht
  have tg : txt g h = true := by unfold txt; rw [dec_true, so_h hr hh ht h0 ho hdl S]; exact ht
  have tx : txt g (f.length + 1) = true := by unfold txt; rw [dec_true, so_x hr hh ht h0 ho hdl S]; exact .inl rfl
  refine runGo_ins f g h (f.length + 1) _ th tg tx (so_both hr hh ht h0 ho hdl S) (fun k hk => ?_) _ (fun k hk => ?_)
  · exact so_txt hr hh ht h0 ho hdl S (hB k hk) (hlx _ (List.mem_of_mem_drop hk))
  · have := List.mem_of_mem_drop hk
    exact so_txt hr hh ht h0 ho hdl S (hA k this) (hlx _ (List.mem_of_mem_take this))
end
theorem partsNo_c (f : List Node) (h off w : Int) (hw : w ≠ 0) (c1 : PureC Tryz.prog 12 [fav f, iav h, u32 off] (.tup [fav [], iav 0, .imm (.sl []), iav w])) : PureC Tryz.prog 4 [fav f, iav h, u32 off] (bav true) := by
  refine PureC.mk tabs Tryz.func4 134 [.tmp 6] rfl rfl rfl rfl rfl ?_; intro w0 X
  (repeat' (first | ((with_reducible show AL _ _ _ _ _); first | (refine AL.step tabs rfl ?_; try dsimp only [len, List.nil_append, List.cons_append]) | refine AL.op rfl (OpOK.call rfl rfl rfl rfl lives_c rfl) ?_ | refine AL.op rfl (OpOK.call rfl rfl rfl rfl c1 rfl) ?_ | refine AL.nil ?_ | (refine AL.gsplitE rfl rfl rfl (fun hc => ?_) (fun hc => ?_) <;> (fail_if_success (exact absurd hc (by decide))) <;> (try simp only [hsx] at hc) <;> (try first | (exfalso; omega) | contradiction | (exfalso; simp [dec_eq] at hc; done))) | (refine AL.op rfl (OpOK.ari64 rfl rfl rfl rfl rfl (by omega) (by omega)) ?_) | (refine AL.op rfl (OpOK.index_map tabs rfl rfl rfl rfl rfl rfl rfl (fun _ => rfl) (by decide) (by omega) (by omega)) ?_)) | ((with_reducible show DQ _ _ _ _ _ _); first | refine DQ.stepc (LS.val tabs rfl rfl rfl) rfl rfl rfl rfl rfl ?_ | refine DQ.stepc (LS.skip rfl rfl) rfl rfl rfl rfl rfl ?_ | refine DQ.nilM (by kernel_rfl) ?_ | refine DQ.stepc (LS.ari64 rfl rfl rfl rfl rfl rfl (by omega) (by omega)) rfl rfl rfl rfl rfl ?_ | refine DQ.stepc (LS.index_map tabs rfl rfl rfl rfl rfl rfl rfl rfl (fun _ => rfl) (by decide) (by omega) (by omega)) rfl rfl rfl rfl rfl ?_ | (refine DQ.gsplitE rfl rfl rfl (fun hc => ?_) (fun hc => ?_) <;> (fail_if_success (exact absurd hc (by decide))) <;> (try simp only [hsx] at hc) <;> (try first | (exfalso; omega) | contradiction | (exfalso; simp [dec_eq] at hc; done)))) | refine AW.seq ?_ | refine AW.region ?_ | refine Then.norm ?_ | refine AW.skip ?_ | refine AW.condT rfl ?_ | refine AW.condF rfl ?_ | (refine AW.cond rfl (fun hc => ?_) (fun hc => ?_) <;> (try simp only [hsx] at hc) <;> (try first | (exfalso; omega) | contradiction | (exfalso; simp [dec_eq] at hc; done))) | refine AW.ret ?_ | refine Then.ret ?_ | refine AW.drawW mixed (by kernel_rfl) ?_))
  all_goals first
    | exact RQ.fin rfl rfl rfl
    | (exfalso; exact hw hc)
theorem parts_core (f g : List Node) (L : List Change) (h off : Int) (a b : List Int) (hf : f.length ≤ 1000000000) (hg : g.length ≤ 1000000000) (hgl : g.length = f.length + 1) (h1 : 1 ≤ h) (h2 : h ≤ f.length) (h0 : 0 ≤ off) (h3 : off < 4294967296)
    (c1 : PureC Tryz.prog 12 [fav f, iav h, u32 off] (.tup [fav g, iav (f.length + 1), .imm (.sl (L.map Change.iv)), iav 0])) (w1 : PureC Tryz.prog 18 [fav f, iav h] (.tup [.imm (.sl (a.map u16)), iav 0])) (w2 : PureC Tryz.prog 18 [fav g, iav h] (.tup [.imm (.sl (b.map u16)), iav 0]))
    (ha : a.length ≤ 1000000000) (hb : b.length ≤ 1000000000) (hd1 : (atI g (h - 1)).data.length ≤ 1000000) (hd2 : (atI g ((f.length : Int) + 1 - 1)).data.length ≤ 1000000) (hd3 : (atI f (h - 1)).data.length ≤ 1000000)
    (hdl : ((atI g (h - 1)).data.length : Int) = off) (hboth : (atI g (h - 1)).data ++ (atI g ((f.length : Int) + 1 - 1)).data = (atI f (h - 1)).data) (hpar : (atI f (h - 1)).parent = 0 → (atI g ((f.length : Int) + 1 - 1)).parent = 0) (hwh : (atI f (h - 1)).parent ≠ 0 → a = b) : PureC Tryz.prog 4 [fav f, iav h, u32 off] (bav true) := by
  have hmf : (f.map Node.iv).length = f.length := List.length_map _
  have hmg : (g.map Node.iv).length = g.length := List.length_map _
  have s1 := same_c ((atI g (h - 1)).data ++ (atI g ((f.length : Int) + 1 - 1)).data) (atI f (h - 1)).data (by rw [List.length_append]; omega) (by omega)
  rw [show dec ((atI g (h - 1)).data ++ (atI g ((f.length : Int) + 1 - 1)).data = (atI f (h - 1)).data) = true by rw [dec_true]; exact hboth] at s1
  have s2 := same_c a b ha hb
  have hmd : ((atI g (h - 1)).data.map u16).length = (atI g (h - 1)).data.length := List.length_map _
  refine PureC.mk tabs Tryz.func4 134 [.tmp 6] rfl rfl rfl rfl rfl ?_; intro w0 X
  refine AW.reserve 55 1 rfl ?_
  (repeat' (first | ((with_reducible show AL _ _ _ _ _); first | (refine AL.step tabs rfl ?_; try dsimp only [len, List.nil_append, List.cons_append]) | refine AL.op rfl (OpOK.call rfl rfl rfl rfl lives_c rfl) ?_ | refine AL.op rfl (OpOK.call rfl rfl rfl rfl c1 rfl) ?_ | refine AL.op rfl (OpOK.call rfl rfl rfl rfl w1 rfl) ?_ | refine AL.op rfl (OpOK.call rfl rfl rfl rfl w2 rfl) ?_ | refine AL.op rfl (OpOK.call rfl rfl rfl rfl s2 rfl) ?_ | refine AL.nil ?_ | (refine AL.gsplitE rfl rfl rfl (fun hc => ?_) (fun hc => ?_) <;> (fail_if_success (exact absurd hc (by decide))) <;> (try simp only [hsx] at hc) <;> (try first | (exfalso; omega) | contradiction | (exfalso; simp [dec_eq] at hc; done))) | (refine AL.op rfl (OpOK.ari64 rfl rfl rfl rfl rfl (by omega) (by omega)) ?_) | (refine AL.op rfl (OpOK.index_map tabs rfl rfl rfl rfl rfl rfl rfl (fun _ => rfl) (by decide) (by omega) (by omega)) ?_)) | ((with_reducible show DQ _ _ _ _ _ _); first | refine DQ.stepc (LS.val tabs rfl rfl rfl) rfl rfl rfl rfl rfl ?_ | refine DQ.stepc (LS.skip rfl rfl) rfl rfl rfl rfl rfl ?_ | refine DQ.nilM (by kernel_rfl) ?_ | refine DQ.stepc (LS.ari64 rfl rfl rfl rfl rfl rfl (by omega) (by omega)) rfl rfl rfl rfl rfl ?_ | refine DQ.stepc (LS.index_map tabs rfl rfl rfl rfl rfl rfl rfl rfl (fun _ => rfl) (by decide) (by omega) (by omega)) rfl rfl rfl rfl rfl ?_ | (refine DQ.gsplitE rfl rfl rfl (fun hc => ?_) (fun hc => ?_) <;> (fail_if_success (exact absurd hc (by decide))) <;> (try simp only [hsx] at hc) <;> (try first | (exfalso; omega) | contradiction | (exfalso; simp [dec_eq] at hc; done)))) | refine AW.seq ?_ | refine AW.region ?_ | refine Then.norm ?_ | refine AW.skip ?_ | refine AW.condT rfl ?_ | refine AW.condF rfl ?_ | (refine AW.cond rfl (fun hc => ?_) (fun hc => ?_) <;> (try simp only [hsx] at hc) <;> (try first | (exfalso; omega) | contradiction | (exfalso; simp [dec_eq] at hc; done))) | refine AW.ret ?_ | refine Then.ret ?_ | refine AW.drawW mixed (by kernel_rfl) ?_))
  obtain ⟨u, hue⟩ : ∃ u, u = (atI g (h - 1)).data := ⟨_, rfl⟩
  obtain ⟨v, hve⟩ : ∃ v, v = (atI g ((f.length : Int) + 1 - 1)).data := ⟨_, rfl⟩
  have hul : (atI g (h - 1)).data.map u16 = u.map u16 := by rw [hue]
  have hvl : (atI g ((f.length : Int) + 1 - 1)).data.map u16 = v.map u16 := by rw [hve]
  rw [← hue, ← hve] at s1
  have hu1 : u.length ≤ 1000000 := by rw [hue]; exact hd1
  have hv1 : v.length ≤ 1000000 := by rw [hve]; exact hd2
  by_cases hu : u = []
  · by_cases hv : v = []
    · rw [hu, hv] at s1
      (repeat' (first | ((with_reducible show AL _ _ _ _ _); first | refine AL.op rfl (OpOK.toI64 tabs rfl rfl rfl rfl rfl rfl (by omega) (by omega)) ?_ | (refine AL.step tabs rfl ?_; try dsimp only [len, List.nil_append, List.cons_append]) | refine AL.op rfl (OpOK.callfz rfl rfl rfl rfl s1 rfl rfl) ?_ | refine AL.op rfl (OpOK.call rfl rfl rfl rfl w1 rfl) ?_ | refine AL.op rfl (OpOK.call rfl rfl rfl rfl w2 rfl) ?_ | refine AL.op rfl (OpOK.call rfl rfl rfl rfl s2 rfl) ?_ | refine AL.nil ?_ | (refine AL.gsplitE rfl rfl rfl (fun hc => ?_) (fun hc => ?_) <;> (fail_if_success (exact absurd hc (by decide))) <;> (try simp only [hsx] at hc) <;> (try first | (exfalso; omega) | contradiction | (exfalso; simp [dec_eq] at hc; done))) | (refine AL.op rfl (OpOK.ari64 rfl rfl rfl rfl rfl (by omega) (by omega)) ?_) | (refine AL.op rfl (OpOK.index_map tabs rfl rfl rfl rfl rfl rfl rfl (fun _ => rfl) (by decide) (by omega) (by omega)) ?_)) | ((with_reducible show DQ _ _ _ _ _ _); first | refine DQ.stepc (LS.lit0 tabs rfl rfl rfl rfl rfl rfl rfl) rfl rfl rfl rfl rfl ?_ | refine DQ.stepc (LS.nocap0_imm tabs rfl rfl rfl rfl rfl rfl rfl rfl rfl rfl (by rw [hul, hu]; rfl)) rfl rfl rfl rfl rfl ?_ | refine DQ.stepc (LS.nocap0_imm tabs rfl rfl rfl rfl rfl rfl rfl rfl rfl rfl (by rw [hvl, hv]; rfl)) rfl rfl rfl rfl rfl ?_ | refine DQ.stepc (LS.val tabs rfl rfl rfl) rfl rfl rfl rfl rfl ?_ | refine DQ.stepc (LS.skip rfl rfl) rfl rfl rfl rfl rfl ?_ | refine DQ.nilM (by kernel_rfl) ?_ | refine DQ.stepc (LS.ari64 rfl rfl rfl rfl rfl rfl (by omega) (by omega)) rfl rfl rfl rfl rfl ?_ | refine DQ.stepc (LS.index_map tabs rfl rfl rfl rfl rfl rfl rfl rfl (fun _ => rfl) (by decide) (by omega) (by omega)) rfl rfl rfl rfl rfl ?_ | (refine DQ.gsplitE rfl rfl rfl (fun hc => ?_) (fun hc => ?_) <;> (fail_if_success (exact absurd hc (by decide))) <;> (try simp only [hsx] at hc) <;> (try first | (exfalso; omega) | contradiction | (exfalso; simp [dec_eq] at hc; done)))) | refine AW.seq ?_ | refine AW.region ?_ | refine Then.norm ?_ | refine AW.skip ?_ | refine AW.condT rfl ?_ | refine AW.condF rfl ?_ | (refine AW.cond rfl (fun hc => ?_) (fun hc => ?_) <;> (try simp only [hsx] at hc) <;> (try first | (exfalso; omega) | contradiction | (exfalso; simp [dec_eq] at hc; done))) | refine AW.ret ?_ | refine Then.ret ?_ | refine AW.drawW mixed (by kernel_rfl) ?_))
      all_goals first
        | exact RQ.fin rfl rfl (congrArg bav (by rw [dec_true]; exact hpar hc))
        | exact RQ.fin rfl rfl (congrArg bav (by rw [dec_true]; exact hwh (by assumption)))
    · rw [hu, List.nil_append] at s1
      (repeat' (first | ((with_reducible show AL _ _ _ _ _); first | refine AL.op rfl (OpOK.toI64 tabs rfl rfl rfl rfl rfl rfl (by omega) (by omega)) ?_ | (refine AL.step tabs rfl ?_; try dsimp only [len, List.nil_append, List.cons_append]) | refine AL.op rfl (OpOK.callsc rfl rfl rfl rfl (.cons (Fz.os (b := ⟨55, 1, (v.map u16).map (·.map .imm)⟩) (rows := v.map u16) rfl (List.length_map _).symm rfl) (.cons (Fz.im rfl) .nil)) s1 rfl) ?_ | refine AL.op rfl (OpOK.call rfl rfl rfl rfl w1 rfl) ?_ | refine AL.op rfl (OpOK.call rfl rfl rfl rfl w2 rfl) ?_ | refine AL.op rfl (OpOK.call rfl rfl rfl rfl s2 rfl) ?_ | refine AL.nil ?_ | (refine AL.gsplitE rfl rfl rfl (fun hc => ?_) (fun hc => ?_) <;> (fail_if_success (exact absurd hc (by decide))) <;> (try simp only [hsx] at hc) <;> (try first | (exfalso; omega) | contradiction | (exfalso; simp [dec_eq] at hc; done))) | (refine AL.op rfl (OpOK.ari64 rfl rfl rfl rfl rfl (by omega) (by omega)) ?_) | (refine AL.op rfl (OpOK.index_map tabs rfl rfl rfl rfl rfl rfl rfl (fun _ => rfl) (by decide) (by omega) (by omega)) ?_)) | ((with_reducible show DQ _ _ _ _ _ _); first | refine DQ.stepc (LS.lit0 tabs rfl rfl rfl rfl rfl rfl rfl) rfl rfl rfl rfl rfl ?_ | refine DQ.stepc (LS.nocap0_imm tabs rfl rfl rfl rfl rfl rfl rfl rfl rfl rfl (by rw [hul, hu]; rfl)) rfl rfl rfl rfl rfl ?_ | refine DQ.stepc (LS.nocap_imm 0 (rows := v.map u16) (ie := ti55) tabs rfl rfl rfl rfl rfl rfl (by decide) rfl rfl rfl rfl rfl (by rw [← hvl]; rfl) (by simpa using hv) (u16_len _) (by simp [ti55]; omega) (by simp; omega)) rfl rfl rfl rfl rfl ?_ | refine DQ.stepc (LS.val tabs rfl rfl rfl) rfl rfl rfl rfl rfl ?_ | refine DQ.stepc (LS.skip rfl rfl) rfl rfl rfl rfl rfl ?_ | refine DQ.nilM (by kernel_rfl) ?_ | refine DQ.stepc (LS.ari64 rfl rfl rfl rfl rfl rfl (by omega) (by omega)) rfl rfl rfl rfl rfl ?_ | refine DQ.stepc (LS.index_map tabs rfl rfl rfl rfl rfl rfl rfl rfl (fun _ => rfl) (by decide) (by omega) (by omega)) rfl rfl rfl rfl rfl ?_ | (refine DQ.gsplitE rfl rfl rfl (fun hc => ?_) (fun hc => ?_) <;> (fail_if_success (exact absurd hc (by decide))) <;> (try simp only [hsx] at hc) <;> (try first | (exfalso; omega) | contradiction | (exfalso; simp [dec_eq] at hc; done)))) | refine AW.seq ?_ | refine AW.region ?_ | refine Then.norm ?_ | refine AW.skip ?_ | refine AW.condT rfl ?_ | refine AW.condF rfl ?_ | (refine AW.cond rfl (fun hc => ?_) (fun hc => ?_) <;> (try simp only [hsx] at hc) <;> (try first | (exfalso; omega) | contradiction | (exfalso; simp [dec_eq] at hc; done))) | refine AW.ret ?_ | refine Then.ret ?_ | refine AW.drawW mixed (by kernel_rfl) ?_))
      all_goals first
        | exact RQ.fin rfl rfl (congrArg bav (by rw [dec_true]; exact hpar hc))
        | exact RQ.fin rfl rfl (congrArg bav (by rw [dec_true]; exact hwh (by assumption)))
  · (repeat' (first | ((with_reducible show AL _ _ _ _ _); first | refine AL.op rfl (OpOK.toI64 tabs rfl rfl rfl rfl rfl rfl (by omega) (by omega)) ?_ | (refine AL.step tabs rfl ?_; try dsimp only [len, List.nil_append, List.cons_append]) | refine AL.op rfl (OpOK.callsc rfl rfl rfl rfl (.cons (Fz.os (b := ⟨55, 1, (u.map u16).map (·.map .imm) ++ (v.map u16).map (·.map .imm)⟩) (rows := (u ++ v).map u16) rfl (by simp) (by rw [List.map_append, List.map_append])) (.cons (Fz.im rfl) .nil)) s1 rfl) ?_ | refine AL.op rfl (OpOK.call rfl rfl rfl rfl w1 rfl) ?_ | refine AL.op rfl (OpOK.call rfl rfl rfl rfl w2 rfl) ?_ | refine AL.op rfl (OpOK.call rfl rfl rfl rfl s2 rfl) ?_ | refine AL.nil ?_ | (refine AL.gsplitE rfl rfl rfl (fun hc => ?_) (fun hc => ?_) <;> (fail_if_success (exact absurd hc (by decide))) <;> (try simp only [hsx] at hc) <;> (try first | (exfalso; omega) | contradiction | (exfalso; simp [dec_eq] at hc; done))) | (refine AL.op rfl (OpOK.ari64 rfl rfl rfl rfl rfl (by omega) (by omega)) ?_) | (refine AL.op rfl (OpOK.index_map tabs rfl rfl rfl rfl rfl rfl rfl (fun _ => rfl) (by decide) (by omega) (by omega)) ?_)) | ((with_reducible show DQ _ _ _ _ _ _); first | refine DQ.stepc (LS.lit0 tabs rfl rfl rfl rfl rfl rfl rfl) rfl rfl rfl rfl rfl ?_ | refine DQ.stepc (LS.nocap_imm 0 (rows := u.map u16) (ie := ti55) tabs rfl rfl rfl rfl rfl rfl (by decide) rfl rfl rfl rfl rfl (by rw [← hul]; rfl) (by simpa using hu) (u16_len _) (by simp [ti55]; omega) (by simp; omega)) rfl rfl rfl rfl rfl ?_ | refine DQ.stepc (LS.append_imm (rows := (u.map u16).map (·.map .imm)) (rows2 := v.map u16) (ie := ti55) tabs rfl rfl rfl rfl rfl rfl rfl rfl (List.length_map _).symm rfl rfl rfl rfl (by rw [← hvl]; rfl) (u16_len _) (by simp [ti55]; omega) (by simp; omega)) rfl rfl rfl rfl rfl ?_ | refine DQ.stepc (LS.val tabs rfl rfl rfl) rfl rfl rfl rfl rfl ?_ | refine DQ.stepc (LS.skip rfl rfl) rfl rfl rfl rfl rfl ?_ | refine DQ.nilM (by kernel_rfl) ?_ | refine DQ.stepc (LS.ari64 rfl rfl rfl rfl rfl rfl (by omega) (by omega)) rfl rfl rfl rfl rfl ?_ | refine DQ.stepc (LS.index_map tabs rfl rfl rfl rfl rfl rfl rfl rfl (fun _ => rfl) (by decide) (by omega) (by omega)) rfl rfl rfl rfl rfl ?_ | (refine DQ.gsplitE rfl rfl rfl (fun hc => ?_) (fun hc => ?_) <;> (fail_if_success (exact absurd hc (by decide))) <;> (try simp only [hsx] at hc) <;> (try first | (exfalso; omega) | contradiction | (exfalso; simp [dec_eq] at hc; done)))) | refine AW.seq ?_ | refine AW.region ?_ | refine Then.norm ?_ | refine AW.skip ?_ | refine AW.condT rfl ?_ | refine AW.condF rfl ?_ | (refine AW.cond rfl (fun hc => ?_) (fun hc => ?_) <;> (try simp only [hsx] at hc) <;> (try first | (exfalso; omega) | contradiction | (exfalso; simp [dec_eq] at hc; done))) | refine AW.ret ?_ | refine Then.ret ?_ | refine AW.drawW mixed (by kernel_rfl) ?_))
    all_goals first
        | exact RQ.fin rfl rfl (congrArg bav (by rw [dec_true]; exact hpar hc))
        | exact RQ.fin rfl rfl (congrArg bav (by rw [dec_true]; exact hwh (by assumption)))
theorem whole_len (f : List Node) (h : Int) (hf : Fit f) (hr : rightP f) : (wholeP f h).length ≤ 1000000000 := by
  have key : ∀ (t : Int → Bool) (l : List Int) (m : Nat), (∀ k ∈ l, (nodeAt f k).data.length ≤ m) → (runGo f t l).length ≤ l.length * m := by
    intro t l m
    induction l with
    | nil => intro _; simp [runGo]
    | cons x l ih =>
      intro hl
      unfold runGo
      split
      · have h1 := hl x (by simp)
        have h2 := ih fun k hk => hl k (by simp [hk])
        rw [List.length_append, List.length_cons, Nat.succ_mul]
        omega
      · simp
  have hd : ∀ k, (nodeAt f k).data.length ≤ 16384 := by
    intro k
    by_cases hk : inR f k
    · have := (right_node hr hk).1.2.2.1.1
      omega
    · rw [node_out hk]; simp [n0]
  unfold wholeP
  split
  · have := hd h; omega
  · have h1 := key (txt f) ((nodeAt f (nodeAt f h).parent).kids.drop (leftN (txt f) (nodeAt f (nodeAt f h).parent).kids (idx (nodeAt f (nodeAt f h).parent).kids h).toNat)) 16384 fun k _ => hd k
    have h2 := right_few hr (nodeAt f h).parent
    refine Nat.le_trans h1 ?_
    rw [List.length_drop]
    omega
theorem parts_all (f : List Node) (h off : Int) (hf : Fit f) (h0 : 0 ≤ off) (h1 : off < 4294967296) : PureC Tryz.prog 4 [fav f, iav h, u32 off] (bav true) := by
  have hs := splitA_c f h off hf h0 h1
  unfold splitA at hs
  by_cases he : cfP f h true = 0
  · rw [if_neg (by omega)] at hs
    obtain ⟨hr, hh, ht, _⟩ := cf_right he
    have ht := ht rfl
    by_cases ho : off ≤ (nodeAt f h).data.length
    · rw [if_neg (by omega)] at hs
      by_cases hw : (splQ f h off).why = 0
      · rw [if_neg (by omega)] at hs
        obtain ⟨_, S, _⟩ := split_out hf hr hh ht h0 ho hw
        obtain ⟨g, hg⟩ : ∃ g, g = (splQ f h off).F := ⟨_, rfl⟩
        rw [← hg] at hs S
        have hdl := (hf.at h).data
        have hd16 : ∀ (k : List Node) (x : Int), rightP k → (nodeAt k x).data.length ≤ 1000000 := by
          intro k x hk
          by_cases hx : inR k x
          · have := (right_node hk hx).1.2.2.1.1
            omega
          · rw [node_out hx]; simp [n0]
        have hh1 := hh.1
        have hh2 := hh.2
        have hgl := S.len
        have ing : inR g h := ⟨hh.1, by omega⟩
        have inx : inR g (f.length + 1) := ⟨by omega, by omega⟩
        have eg := so_h hr hh ht h0 ho hdl S
        have ex := so_x hr hh ht h0 ho hdl S
        have eb := so_both hr hh ht h0 ho hdl S
        have d1 := hd16 g h S.right
        have d2 := hd16 g (f.length + 1) S.right
        have d3 := hd16 f h hr
        have dl : ((nodeAt g h).data.length : Int) = off := by rw [eg]; simp; omega
        have hp : (nodeAt f h).parent = 0 → (nodeAt g (f.length + 1)).parent = 0 := fun e => by rw [ex]; exact e
        have hq : (nodeAt f h).parent ≠ 0 → wholeP f h = wholeP g h := fun e => (so_whole hr hh ht h0 ho hdl S e).symm
        rw [node_in ing] at d1 dl eb
        rw [node_in inx] at d2 hp eb
        rw [node_in hh] at d3 eb hp hq
        exact parts_core f g _ h off (wholeP f h) (wholeP g h) hf.len S.fit.len hgl hh1 hh2 h0 h1 hs (whole_c f h hf he) (whole_c g h S.fit (so_cf hr hh ht h0 ho hdl S)) (whole_len f h hf hr) (whole_len g h S.fit S.right) d1 d2 d3 dl eb hp hq
      · rw [if_pos hw] at hs
        exact partsNo_c f h off _ hw hs
    · rw [if_pos (by omega)] at hs
      exact partsNo_c f h off _ (by omega) hs
  · rw [if_pos he] at hs
    exact partsNo_c f h off _ he hs
end Go.Proofs.YtmhejcnaanocpaaGreat.A
namespace Go.Proofs.YtmhejcnaanocpaaGreat.A
open Go.RowKit
set_option linter.unusedVariables false
set_option linter.unusedSimpArgs false
variable {P : Program} {α β : Type}
def noX : Nat → Prop := fun _ => False
theorem bulk_part {H : Type} {d : DataW H} {l : List (DataW H)} (h : d ∈ l) : Rows.uptoBulk d ≤ Rows.uptoBulkAll l := by
  induction l with
  | nil => cases h
  | cons x r ih =>
    simp only [Rows.uptoBulkAll]
    cases List.mem_cons.1 h with
    | inl e => subst e; omega
    | inr e => have := ih e; omega
theorem bulk_pos {H : Type} (d : DataW H) : 1 ≤ Rows.uptoBulk d := by
  cases d with
  | lit l => cases l <;> simp [Rows.uptoBulk]
  | nil => simp [Rows.uptoBulk]
  | ptr d => simp [Rows.uptoBulk]
  | slice elems spare => simp [Rows.uptoBulk]
  | agg parts => simp [Rows.uptoBulk]
  | iface t d => simp [Rows.uptoBulk]
  | map entries => simp [Rows.uptoBulk]
  | held h => simp [Rows.uptoBulk]
theorem bulk_length {H : Type} (l : List (DataW H)) : l.length ≤ Rows.uptoBulkAll l := by
  induction l with
  | nil => simp [Rows.uptoBulkAll]
  | cons x r ih => have := bulk_pos x; simp only [Rows.uptoBulkAll, List.length_cons]; omega
/-- type t's data reads as some a, which is rd a in cells; a fits: Fit, of a and the data's bulk. -/
structure Opens (P : Program) (t : TypeId) (rd : α → List IV) (sz : Nat) (Fit : α → Nat → Prop) : Prop where
  len : ∀ a, (rd a).length = sz
  get : ∀ {H : Type} {enc : TypeId × Value → H} {w : World} {spare : Nat → Bool} {held : Bool} {fuel : Nat} {cs : List Value} {x : DataW H × List MemPlace},
    DataW.trod enc P w 0 spare held fuel t cs = some x → ∃ a : α, All2 (RepI w noX) (rd a) cs ∧ Fit a (Rows.uptoBulk x.1)
  mono : ∀ {a : α} {b b' : Nat}, b ≤ b' → Fit a b → Fit a b'
theorem Opens.int {t : TypeId} {k : IntKind} (ht : P.underlying t = some (.int k)) : Opens P t (fun n : Int => [.int k n]) 1 (fun _ _ => True) where
  len := fun _ => rfl
  mono := fun _ h => h
  get := by
    intro H enc w spare held fuel cs x h
    obtain ⟨n, rfl, rfl, hw⟩ := DataW.trod_int ht h
    exact ⟨n, .cons (.int _ _) .nil, trivial⟩
theorem Opens.bool {t : TypeId} (ht : P.underlying t = some .bool) : Opens P t (fun b : Bool => [.bool b]) 1 (fun _ _ => True) where
  len := fun _ => rfl
  mono := fun _ h => h
  get := by
    intro H enc w spare held fuel cs x h
    obtain ⟨n, rfl, rfl⟩ := DataW.trod_bool ht h
    exact ⟨n, .cons (.bool _) .nil, trivial⟩
theorem Opens.string {t : TypeId} (ht : P.underlying t = some .string) : Opens P t (fun s : ByteArray => [.str s]) 1 (fun _ _ => True) where
  len := fun _ => rfl
  mono := fun _ h => h
  get := by
    intro H enc w spare held fuel cs x h
    obtain ⟨n, rfl, rfl, hw⟩ := DataW.trod_string ht h
    exact ⟨n, .cons (.str _) .nil, trivial⟩
theorem pick_list {Q : Nat → α → Prop} : ∀ n : Nat, (∀ i, i < n → ∃ p, Q i p) → ∃ xs : List α, xs.length = n ∧ ∀ i p, xs[i]? = some p → Q i p
  | 0, _ => ⟨[], rfl, fun i p h => by simp at h⟩
  | n + 1, h => by
    obtain ⟨xs, hl, hq⟩ := pick_list n (fun i hi => h i (by omega))
    obtain ⟨p, hp⟩ := h n (by omega)
    refine ⟨xs ++ [p], by simp [hl], fun i q hi => ?_⟩
    by_cases e : i < xs.length
    · rw [List.getElem?_append_left e] at hi
      exact hq i q hi
    · have hlt := (List.getElem?_eq_some_iff.1 hi).1
      simp [hl] at hlt
      obtain rfl : i = n := by omega
      rw [List.getElem?_append_right (by omega), hl, Nat.sub_self] at hi
      simp at hi
      subst hi
      exact hp
theorem all2_pairs {R : IV → Value → Prop} {rd : α → List IV} : ∀ {l : List (α × List Value)}, (∀ p ∈ l, All2 R (rd p.1) p.2) → All2 R ((l.map Prod.fst).map rd).flatten (l.map Prod.snd).flatten
  | [], _ => .nil
  | p :: r, h => by
    simp only [List.map_cons, List.flatten_cons]
    exact (h p (by simp)).append (all2_pairs fun q hq => h q (by simp [hq]))
theorem add_addA (a : Addr) (i j : Nat) : (a.add i).add j = a.add (i + j) := by
  unfold Addr.add
  by_cases hi : i = 0
  · subst hi; simp
  · by_cases hj : j = 0
    · subst hj; simp
    · simp [hi, hj, Nat.add_assoc]
theorem Opens.slice {t e : TypeId} {rd : α → List IV} {sz : Nat} {Fit : α → Nat → Prop} (ht : P.underlying t = some (.slice e)) (hc : P.cellsOf e = sz) (hsz : 0 < sz) (he : Opens P e rd sz Fit) :
    Opens P t (fun xs : List α => [.sl (xs.map rd)]) 1 (fun xs b => xs.length < b ∧ ∀ x ∈ xs, Fit x b) where
  len := fun _ => rfl
  mono := fun h h2 => ⟨Nat.lt_of_lt_of_le h2.1 h, fun x hx => he.mono h (h2.2 x hx)⟩
  get := by
    intro H enc w spare held fuel cs x h
    rcases DataW.trod_slice ht h with ⟨rfl, rfl⟩ | ⟨a, len, cap, elems, rest, n, _, rfl, rfl, hb, hl, hm, hlen, hel, _, _⟩
    · exact ⟨[], .cons (.nil _ _) .nil, by simp [Rows.uptoBulk]⟩
    · have each : ∀ i : Nat, i < len → ∃ p : α × List Value, All2 (RepI w noX) (rd p.1) p.2 ∧ p.2.length = sz ∧ (∀ j u, p.2[j]? = some u → w.cell? (a.add (i * sz + j)) = some u) ∧ ∃ y : DataW H × List MemPlace, elems[i]? = some y ∧ Fit p.1 (Rows.uptoBulk y.1) := by
        intro i hi
        have h1 := hel i hi
        obtain ⟨y, hy⟩ : ∃ y, elems[i]? = some y := ⟨_, List.getElem?_eq_getElem (by omega)⟩
        rw [hy, hc] at h1
        obtain ⟨c, hcs, htr⟩ := Option.bind_eq_some_iff.1 h1
        obtain ⟨p, hK, hF⟩ := he.get htr
        have hcl : c.length = sz := by rw [← hK.length, he.len]
        refine ⟨(p, c), hK, hcl, fun j u hj => ?_, y, hy, hF⟩
        unfold World.cells? at hcs
        rw [if_pos (Nat.zero_le _)] at hcs
        have hj2 : j < sz := by
          have := (List.getElem?_eq_some_iff.1 hj).1
          rw [← hcl]
          exact this
        have := mapM_some_get hcs j j (List.getElem?_range hj2)
        rw [← add_addA, this, hj]
      obtain ⟨xs, hxl, hxq⟩ := pick_list len each
      have hall : ∀ p ∈ xs, ∃ i, xs[i]? = some p := fun p hp => by
        obtain ⟨j, hj, rfl⟩ := List.getElem_of_mem hp
        exact ⟨j, List.getElem?_eq_getElem hj⟩
      refine ⟨xs.map Prod.fst, .cons ?_ .nil, ?_, ?_⟩
      · by_cases h0 : xs = []
        · subst h0
          simp at hxl
          subst hxl
          exact .nil _ _
        · have hr2 : ∀ r ∈ xs.map Prod.snd, r.length = sz := by
            intro r hr
            obtain ⟨p, hp, rfl⟩ := List.mem_map.1 hr
            obtain ⟨i, hi⟩ := hall p hp
            exact (hxq i p hi).2.1
          refine .sl _ a len cap sz (xs.map Prod.snd).flatten (by simpa using h0) hsz (by simp [hxl]) hl (fun h => h) ?_ ?_ (all2_pairs fun p hp => ?_)
          · intro r hr
            obtain ⟨p, _, rfl⟩ := List.mem_map.1 hr
            exact he.len p
          · intro k u hk
            have hk2 := (List.getElem?_eq_some_iff.1 hk).1
            rw [flat_len hr2] at hk2
            have hdm : k = k / sz * sz + k % sz := by rw [Nat.mul_comm]; exact (Nat.div_add_mod k sz).symm
            have hlt : k / sz < (xs.map Prod.snd).length := (Nat.div_lt_iff_lt_mul hsz).2 hk2
            obtain ⟨r, hr⟩ : ∃ r, (xs.map Prod.snd)[k / sz]? = some r := ⟨_, List.getElem?_eq_getElem hlt⟩
            have hg := flat_get hr2 hr (Nat.mod_lt k hsz)
            rw [← hdm, hk] at hg
            rw [List.getElem?_map] at hr
            obtain ⟨p, hp, rfl⟩ := Option.map_eq_some_iff.1 hr
            have := (hxq _ p hp).2.2.1 _ u hg.symm
            rw [← hdm] at this
            exact this
          · obtain ⟨i, hi⟩ := hall p hp
            exact (hxq i p hi).1
      · have h1 := bulk_length (elems.map (·.1))
        simp [Rows.uptoBulk] at h1 ⊢
        omega
      · intro p hp
        obtain ⟨q, hq, rfl⟩ := List.mem_map.1 hp
        obtain ⟨i, hi⟩ := hall q hq
        obtain ⟨_, _, _, y, hy, hF⟩ := hxq i q hi
        refine he.mono ?_ hF
        have hm : y.1 ∈ elems.map (·.1) := List.mem_map_of_mem (List.mem_of_getElem? hy)
        have := bulk_part hm
        simp only [Rows.uptoBulk]
        omega
/-- fields in line, from cell o on -/
structure OpensF (P : Program) (fs : List Field) (o : Nat) (rd : α → List IV) (sz : Nat) (Fit : α → Nat → Prop) : Prop where
  len : ∀ a, (rd a).length = sz
  get : ∀ {H : Type} {enc : TypeId × Value → H} {w : World} {spare : Nat → Bool} {held : Bool} {fuel : Nat} {cs : List Value} {xs : List (DataW H × List MemPlace)}, cs.length = o + sz →
    (fs.mapM fun f => DataW.trod enc P w 0 spare held fuel f.type ((cs.drop f.offset).take (P.cellsOf f.type))) = some xs → ∃ a : α, All2 (RepI w noX) (rd a) (cs.drop o) ∧ Fit a (Rows.uptoBulkAll (xs.map (·.1)))
  mono : ∀ {a : α} {b b' : Nat}, b ≤ b' → Fit a b → Fit a b'
theorem OpensF.one {f : Field} {o : Nat} {rd : α → List IV} {sz : Nat} {Fit : α → Nat → Prop} (h : Opens P f.type rd sz Fit) (ho : f.offset = o) (hc : P.cellsOf f.type = sz) : OpensF P [f] o rd sz Fit where
  len := h.len
  mono := h.mono
  get := by
    intro H enc w spare held fuel cs xs hl hx
    have h0 := mapM_some_get hx 0 f rfl
    have hlen := mapM_some_length hx
    obtain ⟨y, rfl⟩ : ∃ y, xs = [y] := by
      match xs, hlen with
      | [y], _ => exact ⟨y, rfl⟩
    simp at h0
    rw [ho, hc, List.take_of_length_le (by simp; omega)] at h0
    obtain ⟨a, hK, hF⟩ := h.get h0
    exact ⟨a, hK, h.mono (by simp [Rows.uptoBulkAll]) hF⟩
theorem OpensF.cons {f : Field} {fs : List Field} {o : Nat} {rd : α → List IV} {rd2 : β → List IV} {sz sz2 : Nat} {Fit : α → Nat → Prop} {Fit2 : β → Nat → Prop} (h : Opens P f.type rd sz Fit) (ho : f.offset = o) (hc : P.cellsOf f.type = sz) (h2 : OpensF P fs (o + sz) rd2 sz2 Fit2) :
    OpensF P (f :: fs) o (fun p : α × β => rd p.1 ++ rd2 p.2) (sz + sz2) (fun x b => Fit x.1 b ∧ Fit2 x.2 b) where
  len := fun p => by rw [List.length_append, h.len, h2.len]
  mono := fun hb hf => ⟨h.mono hb hf.1, h2.mono hb hf.2⟩
  get := by
    intro H enc w spare held fuel cs xs hl hx
    have hlen := mapM_some_length hx
    obtain ⟨y, ys, rfl⟩ : ∃ y ys, xs = y :: ys := by
      match xs, hlen with
      | y :: ys, _ => exact ⟨y, ys, rfl⟩
    have h0 := mapM_some_get hx 0 f rfl
    simp at h0
    rw [ho, hc] at h0
    obtain ⟨a, hK, hF⟩ := h.get h0
    have hx2 : (fs.mapM fun f => DataW.trod enc P w 0 spare held fuel f.type ((cs.drop f.offset).take (P.cellsOf f.type))) = some ys := by
      simp only [List.mapM_cons, Option.bind_eq_bind, Option.bind_eq_some_iff] at hx
      obtain ⟨y', hy', ys', hys, he⟩ := hx
      simp at he
      rw [hys, he.2]
    obtain ⟨b, hK2, hF2⟩ := h2.get (by rw [hl]; omega) hx2
    refine ⟨(a, b), ?_, h.mono (by simp [Rows.uptoBulkAll]) hF, h2.mono (by simp [Rows.uptoBulkAll]) hF2⟩
    have := hK.append hK2
    rw [← List.drop_drop, List.take_append_drop] at this
    exact this
theorem Opens.struct {t : TypeId} {fs : Array Field} {rd : α → List IV} {sz : Nat} {Fit : α → Nat → Prop} (ht : P.underlying t = some (.struct fs)) (hf : OpensF P fs.toList 0 rd sz Fit) (hc : P.cellsOf t = sz) : Opens P t rd sz Fit where
  len := hf.len
  mono := fun hb h => hf.mono hb h
  get := by
    intro H enc w spare held fuel cs x h
    cases fuel with
    | zero => simp [DataW.trod] at h
    | succ n =>
      unfold DataW.trod at h
      rw [ht] at h
      simp only at h
      split at h
      · rename_i hl
        obtain ⟨xs, hxs, rfl⟩ := Option.map_eq_some_iff.1 h
        obtain ⟨a, hK, hF⟩ := hf.get (by rw [hl, hc]; omega) hxs
        refine ⟨a, by simpa using hK, hf.mono (by simp [Rows.uptoBulk]) hF⟩
      · cases h
theorem Opens.iso {t : TypeId} {rd : α → List IV} {rd' : β → List IV} {sz : Nat} {Fit : α → Nat → Prop} {Fit' : β → Nat → Prop} (h : Opens P t rd sz Fit) (g : α → β) (hr : ∀ a, rd' (g a) = rd a) (gi : β → α) (hg : ∀ b, g (gi b) = b) (hf : ∀ a b, Fit a b → Fit' (g a) b) (hm : ∀ {a : β} {b b' : Nat}, b ≤ b' → Fit' a b → Fit' a b') : Opens P t rd' sz Fit' where
  len := fun b => by rw [← hg b, hr]; exact h.len _
  mono := hm
  get := by
    intro H enc w spare held fuel cs x hx
    obtain ⟨a, h1, h2⟩ := h.get hx
    exact ⟨g a, by rw [hr]; exact h1, hf _ _ h2⟩
end Go.Proofs.YtmhejcnaanocpaaGreat.A
namespace Go.Proofs.YtmhejcnaanocpaaGreat.A
open Go.RowKit
set_option linter.unusedVariables false
set_option linter.unusedSimpArgs false
theorem opName : Opens Tryz.prog 39 Name.iv 3 (fun _ _ => True) :=
  (Opens.struct Tryz.underlying39 (.cons (.string Tryz.underlying9) rfl (by kernel_rfl) (.cons (.string Tryz.underlying9) rfl (by kernel_rfl) (.one (.string Tryz.underlying9) rfl (by kernel_rfl)))) (by kernel_rfl)).iso
    (fun p => ⟨p.1, p.2.1, p.2.2⟩) (fun _ => rfl) (fun n => (n.sp, n.pf, n.lc)) (fun _ => rfl) (fun _ _ _ => trivial) (fun _ h => h)
theorem opAttr : Opens Tryz.prog 104 Attr.iv 4 (fun _ _ => True) :=
  (Opens.struct Tryz.underlying104 (.cons opName rfl (by kernel_rfl) (.one (.string Tryz.underlying9) rfl (by kernel_rfl))) (by kernel_rfl)).iso
    (fun p => ⟨p.1, p.2⟩) (fun _ => rfl) (fun n => (n.name, n.value)) (fun _ => rfl) (fun _ _ _ => trivial) (fun _ h => h)
theorem opNode : Opens Tryz.prog 44 Node.iv 16 (fun n b => n.data.length < b ∧ n.attrs.length < b ∧ n.kids.length < b) :=
  (Opens.struct Tryz.underlying44 (.cons (.int Tryz.underlying37) rfl (by kernel_rfl) (.cons opName rfl (by kernel_rfl) (.cons (.string Tryz.underlying9) rfl (by kernel_rfl) (.cons (.string Tryz.underlying9) rfl (by kernel_rfl)
    (.cons (.slice Tryz.underlying36 (by kernel_rfl) (by decide) (.int Tryz.underlying55)) rfl (by kernel_rfl) (.cons (.slice Tryz.underlying40 (by kernel_rfl) (by decide) opAttr) rfl (by kernel_rfl)
    (.cons (.int Tryz.underlying3) rfl (by kernel_rfl) (.cons (.slice Tryz.underlying41 (by kernel_rfl) (by decide) (.int Tryz.underlying3)) rfl (by kernel_rfl)
    (.cons (.int Tryz.underlying3) rfl (by kernel_rfl) (.cons (.int Tryz.underlying3) rfl (by kernel_rfl) (.cons (.int Tryz.underlying3) rfl (by kernel_rfl) (.cons (.int Tryz.underlying42) rfl (by kernel_rfl) (.cons (.bool Tryz.underlying4) rfl (by kernel_rfl) (.one (.bool Tryz.underlying4) rfl (by kernel_rfl))))))))))))))) (by kernel_rfl)).iso
    (fun p => ⟨p.1, p.2.1, p.2.2.1, p.2.2.2.1, p.2.2.2.2.1, p.2.2.2.2.2.1, p.2.2.2.2.2.2.1, p.2.2.2.2.2.2.2.1, p.2.2.2.2.2.2.2.2.1, p.2.2.2.2.2.2.2.2.2.1, p.2.2.2.2.2.2.2.2.2.2.1, p.2.2.2.2.2.2.2.2.2.2.2.1, p.2.2.2.2.2.2.2.2.2.2.2.2.1, p.2.2.2.2.2.2.2.2.2.2.2.2.2⟩) (fun _ => rfl)
    (fun n => (n.kind, n.name, n.pub, n.sys, n.data, n.attrs, n.parent, n.kids, n.doc, n.host, n.shadow, n.mode, n.manual, n.html)) (fun _ => rfl) (fun _ _ h => ⟨h.2.2.2.2.1.1, h.2.2.2.2.2.1.1, h.2.2.2.2.2.2.2.1.1⟩) (fun h h2 => ⟨Nat.lt_of_lt_of_le h2.1 h, Nat.lt_of_lt_of_le h2.2.1 h, Nat.lt_of_lt_of_le h2.2.2 h⟩)
theorem opForest : Opens Tryz.prog 24 (fun f : List Node => [.sl (f.map Node.iv)]) 1 (fun f b => f.length < b ∧ ∀ n ∈ f, n.data.length < b ∧ n.attrs.length < b ∧ n.kids.length < b) :=
  Opens.struct Tryz.underlying24 (.one (.slice Tryz.underlying22 (by kernel_rfl) (by decide) opNode) rfl (by kernel_rfl)) (by kernel_rfl)
theorem fit_bulk {f : List Node} {b : Nat} (hb : b ≤ 1048577) (h : f.length < b ∧ ∀ n ∈ f, n.data.length < b ∧ n.attrs.length < b ∧ n.kids.length < b) : Fit f :=
  ⟨by omega, fun n hn => by have := h.2 n hn; exact ⟨by omega, by omega, by omega⟩⟩
theorem argForest {w : World} {f : List Node} {cs : List Value} (h : All2 (RepI w noX) [.sl (f.map Node.iv)] cs) : RepA (M0 w noX) (fav f) (.agg cs.toArray) :=
  .agg _ _ (by
    cases h with
    | cons h1 h2 => cases h2; exact .cons (.imm _ _ h1) .nil)
theorem argInt {w : World} {k : IntKind} {n : Int} {v : Value} (h : All2 (RepI w noX) [.int k n] [v]) : RepA (M0 w noX) (.imm (.int k n)) v := by
  cases h with
  | cons h1 h2 => exact .imm _ _ h1
theorem argBool {w : World} {n : Bool} {v : Value} (h : All2 (RepI w noX) [.bool n] [v]) : RepA (M0 w noX) (.imm (.bool n)) v := by
  cases h with
  | cons h1 h2 => exact .imm _ _ h1
end Go.Proofs.YtmhejcnaanocpaaGreat.A
namespace Go.Proofs.YtmhejcnaanocpaaGreat.A
open Go.RowKit
set_option linter.unusedVariables false
set_option linter.unusedSimpArgs false
theorem Opens.intR {P : Program} {t : TypeId} {k : IntKind} (ht : P.underlying t = some (.int k)) : Opens P t (fun n : Int => [.int k n]) 1 (fun n _ => k.min ≤ n ∧ n ≤ k.max) where
  len := fun _ => rfl
  mono := fun _ h => h
  get := by
    intro H enc w spare held fuel cs x h
    obtain ⟨n, rfl, rfl, hw⟩ := DataW.trod_int ht h
    refine ⟨n, .cons (.int _ _) .nil, ?_⟩
    unfold Lit.wf at hw
    rw [Bool.and_eq_true] at hw
    exact ⟨of_decide_eq_true hw.1, of_decide_eq_true hw.2⟩
theorem u32lo {n : Int} (h : IntKind.u32.min ≤ n ∧ n ≤ IntKind.u32.max) : 0 ≤ n := h.1
theorem u32hi {n : Int} (h : IntKind.u32.min ≤ n ∧ n ≤ IntKind.u32.max) : n < 4294967296 := by
  have : IntKind.u32.max = 4294967295 := by decide
  omega
end Go.Proofs.YtmhejcnaanocpaaGreat.A
namespace Go.Proofs.YtmhejcnaanocpaaGreat.chardataParts
open Go.ChangeShapes Go.WideShapes Go.ChangeAt Go.RowKit Go.Proofs.YtmhejcnaanocpaaGreat.A
set_option linter.unusedVariables false
theorem own : ownKnob Tryz.prog.godebug = none := by kernel_rfl
theorem laidOut : laidOutB Tryz.prog = true := by kernel_rfl
set_option maxRecDepth 100000 in
theorem contract (H : Type) (enc : TypeId × Value → H) (W : World) (base : Nat) (args : Array Value) (ds gs : List (DataW H)) (before : List MemPlace)
    (hval0 : ∀ (j : Nat) t v, Tryz.f4.params[j]? = some t → args[j]? = some v → Value.okWide Tryz.prog W .any base t v)
    (hW : DataW.Whole enc Tryz.prog Tryz.f4.params.toList Rows.chardataPartsSpec.vars false W args.toList ds gs before) (hk : Rows.uptoSmall H (ds ++ gs) = true) :
    Calls Tryz.prog 4 args W fun e W' => ∃ v, e = .returned v ∧ Rows.chardataPartsSpec.post enc Tryz.prog Tryz.f4 false true false false W args v W' := by
  have hval : ∀ (j : Nat) t v, Tryz.f4.params[j]? = some t → args[j]? = some v → Value.okWide Tryz.prog W .any base t v := hval0
  have hW' := hW
  obtain ⟨p, q, hA0, hV, rfl, hfz, hnd⟩ := hW
  have hA : DataW.TrodAll enc Tryz.prog W 0 (fun _ => true) true Tryz.f4.params.toList args.toList ds p := hA0
  rw [Tryz.params4] at hA hval
  obtain ⟨v0, vs0, d0, ds0, p0, q0, hargs, rfl, rfl, h0, r0⟩ := trodAll_cons hA
  obtain ⟨v1, vs1, d1, ds1, p1, q1, rfl, rfl, rfl, h1, r1⟩ := trodAll_cons r0
  obtain ⟨v2, vs2, d2, ds2, p2, q2, rfl, rfl, rfl, h2, r2⟩ := trodAll_cons r1
  obtain ⟨rfl, rfl, rfl⟩ := trodAll_nil r2
  obtain rfl : args = #[v0, v1, v2] := by cases args; simp_all
  obtain ⟨rfl, rfl⟩ := trodVars_none hV
  have hb : Rows.uptoBulkAll ([d0, d1, d2] : List (DataW H)) ≤ 1048576 := by
    have h_ := of_decide_eq_true hk
    simpa only [List.append_nil] using h_
  clear hk
  have lt0 : ∀ x ∈ p0, x.block < W.heap.size := by obtain ⟨m, hm⟩ := h0; exact DataW.trod_lt m _ _ _ hm
  have lt1 : ∀ x ∈ p1, x.block < W.heap.size := by obtain ⟨m, hm⟩ := h1; exact DataW.trod_lt m _ _ _ hm
  have lt2 : ∀ x ∈ p2, x.block < W.heap.size := by obtain ⟨m, hm⟩ := h2; exact DataW.trod_lt m _ _ _ hm
  have b0 : Rows.uptoBulk d0 ≤ 1048576 := Nat.le_trans (bulk_part (by simp)) hb
  have k0 := h0
  have k1 := h1
  have k2 := h2
  obtain ⟨m0, hm0⟩ := k0
  obtain ⟨x0, K0, F0⟩ := opForest.get hm0
  replace F0 := opForest.mono (Nat.le_succ_of_le b0) F0
  obtain ⟨cs0, rfl, _⟩ := okWide_struct Tryz.underlying24 (hval 0 24 v0 rfl rfl)
  obtain ⟨m1, hm1⟩ := k1
  obtain ⟨x1, K1, _⟩ := (Opens.int Tryz.underlying3).get hm1
  obtain ⟨z1, rfl, _, _, _⟩ := open_int Tryz.underlying3 (hval 1 3 v1 rfl rfl) h1
  obtain ⟨m2, hm2⟩ := k2
  obtain ⟨x2, K2, R2⟩ := (Opens.intR Tryz.underlying25).get hm2
  obtain ⟨z2, rfl, _, _, _⟩ := open_int Tryz.underlying25 (hval 2 25 v2 rfl rfl) h2
  refine ((parts_all x0 x1 x2 (fit_bulk (Nat.le_refl _) F0) (u32lo R2) (u32hi R2)).2 W noX _ (fun b h => h.elim) (.cons (argForest K0) (.cons (argInt K1) (.cons (argInt K2) .nil)))).mono fun e W' ⟨x, he, bel, hx⟩ => ?_
  subst he
  obtain rfl : x = .bool true := by
    cases hx with
    | imm _ _ h => exact h.bool_inv
  exact ⟨_, rfl, _, _, _, [], _, [], hW', trodAll_mk1 (shut_bool Tryz.underlying4 _), (trodAll_cons_mk (Below.trod laidOut (by kernel_rfl) (of_decide_eq_true (by kernel_rfl)) h0 bel lt0) (trodAll_cons_mk (Below.trod laidOut (by kernel_rfl) (of_decide_eq_true (by kernel_rfl)) h1 bel lt1) (trodAll_cons_mk (Below.trod laidOut (by kernel_rfl) (of_decide_eq_true (by kernel_rfl)) h2 bel lt2) trodAll_mk0))), rfl, bel.frame _, fun h => by cases h⟩
set_option maxRecDepth 100000 in
theorem lifted (os : Os) (started : os.Started) (H : Type) (enc : TypeId × Value → H) (F : Stop.Interp) :
    ReturnsInHanded {} Tryz.checked os 4 .any ((Rows.OpenSpec.upto Rows.chardataPartsSpec).pre6 enc Tryz.prog Tryz.f4 Rows.chardataPartsUptoRow.domain false) (((Rows.OpenSpec.upto Rows.chardataPartsSpec).at F).post enc Tryz.prog Tryz.f4 false true false false) := by
  refine returnsInHanded_of_cond (C := Tryz.checked) (s := Rows.OpenSpec.upto Rows.chardataPartsSpec) (k := Rows.uptoSmall) rfl own started (by kernel_rfl) Tryz.func4
    (OpenSpec.witness (enc := enc) (C := Tryz.checked) (s := Rows.OpenSpec.upto Rows.chardataPartsSpec) (k := Rows.uptoSmall) rfl false ⟨#[], #[.agg #[.slice none 0 0], .int .i64 0, .int .u32 0], []⟩ 8 (by kernel_rfl) (by kernel_rfl) (by kernel_rfl)
      (x := ([.agg [.nil], .lit (.int .i64 0), .lit (.int .u32 0)], [], [])) (by kernel_rfl) rfl (by kernel_rfl)) ?_
  intro W base args ds gs before hval hW _ hk _
  exact contract H enc W base args ds gs before hval hW hk
theorem over : Rows.chardataPartsUptoRow.holds Tryz.pinned (Rows.OpenSpec.upto Rows.chardataPartsSpec) :=
  OpenClaim.holds_of_cond 4 Tryz.f4 rfl rfl rfl rfl rfl rfl rfl ⟨rfl, rfl, rfl, rfl, rfl⟩ rfl rfl rfl rfl rfl (by kernel_rfl) Tryz.func4 (by kernel_rfl)
    (of_decide_eq_true (by kernel_rfl)) (by unfold Func.isWrapper; first | (rw [if_pos (by decide +kernel)]; kernel_rfl) | (rw [if_neg (by decide +kernel)]; exact ⟨rfl, rfl⟩))
    (fun os started H enc _ F => lifted os started H enc F)
end Go.Proofs.YtmhejcnaanocpaaGreat.chardataParts
namespace Go.Proofs.YtmhejcnaanocpaaGreat
theorem chardataParts_holds : Rows.ChardataPartsUptoSaid := chardataParts.over
#print axioms chardataParts_holds
end Go.Proofs.YtmhejcnaanocpaaGreat
