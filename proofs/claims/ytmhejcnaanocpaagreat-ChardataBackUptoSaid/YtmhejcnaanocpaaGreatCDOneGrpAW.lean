/- The abstract walk, part Zh: a list of the call's own, the last block, is given up: it reads as a list that stays. -/
import Derived.Test.YtmhejcnaanocpaaGreatCDOneGrpAV
import Derived.Test.YtmhejcnaanocpaaGreatCDOneGrpAU
namespace Go.Proofs.YtmhejcnaanocpaaGreat.A
open Go.RowKit
set_option linter.unusedVariables false
set_option linter.unusedSimpArgs false
section
variable {C : Cx} {s : St} {T : List (Nat × TI)} {l : List Oper} {Q : Exit → St → Prop}
/-- in a value, what lies in block k as it is becomes a list that stays. -/
def frz0 (k n : Nat) (rows : List (List IV)) : AV → AV
  | .os id m => bif Nat.beq id k && Nat.beq m n then .imm (.sl rows) else .os id m
  | v => v
def frz (k n : Nat) (rows : List (List IV)) : AV → AV
  | .agg l => .agg (l.map (frz0 k n rows))
  | .tup l => .tup (l.map (frz0 k n rows))
  | v => frz0 k n rows v
theorem frz0_cases (k n : Nat) (rows : List (List IV)) (v : AV) : (v = .os k n ∧ frz0 k n rows v = .imm (.sl rows)) ∨ frz0 k n rows v = v := by
  cases v with
  | os id m =>
    simp only [frz0]
    cases hc : (Nat.beq id k && Nat.beq m n) with
    | true =>
      rw [Bool.and_eq_true] at hc
      have e1 := Nat.eq_of_beq_eq_true hc.1
      have e2 := Nat.eq_of_beq_eq_true hc.2
      exact .inl ⟨by rw [e1, e2], rfl⟩
    | false => exact .inr rfl
  | _ => exact .inr rfl
theorem frz_cases (k n : Nat) (rows : List (List IV)) (v : AV) : (∃ l, v = .agg l ∧ frz k n rows v = .agg (l.map (frz0 k n rows))) ∨ (∃ l, v = .tup l ∧ frz k n rows v = .tup (l.map (frz0 k n rows))) ∨ frz k n rows v = frz0 k n rows v := by
  cases v with
  | agg l => exact .inl ⟨l, rfl, rfl⟩
  | tup l => exact .inr (.inl ⟨l, rfl, rfl⟩)
  | _ => exact .inr (.inr rfl)
def EnvG (e : List (Nat × AV)) (g : AV → AV) : List (Nat × AV) → Prop
  | [] => True
  | (t, v) :: r => (∃ u, get e t = some u ∧ g u = v) ∧ EnvG e g r
theorem getG {e : List (Nat × AV)} {g : AV → AV} : ∀ {e1 : List (Nat × AV)}, EnvG e g e1 → ∀ {t : Nat} {v : AV}, get e1 t = some v → (∃ u, get e t = some u ∧ g u = v) ∧ ∃ p ∈ e1, p.2 = v
  | [], _, t, v, h => by cases h
  | (d, u) :: r, hle, t, v, h => by
    simp only [get] at h
    split at h
    · rename_i e
      have e' := Nat.eq_of_beq_eq_true e
      obtain rfl := Option.some.inj h
      subst e'
      exact ⟨hle.1, _, List.mem_cons_self, rfl⟩
    · obtain ⟨h1, p, h2, h3⟩ := getG hle.2 h
      exact ⟨h1, p, List.mem_cons_of_mem _ h2, h3⟩
theorem Le.giveE (k : Nat) {env env1 : List (Nat × AV)} {hp : List Blk} {b : Blk} {rows : List (List IV)} (hb : nth hp k = some b) (hr : b.rows = rows.map (·.map .imm)) (henv : EnvG env (frz k (len b.rows) rows) env1) (hsc : env1.all (fun p => p.2.sc1 k) = true) (hblk : (hp.take k).all (fun b => b.rows.all fun r => r.all (AV.sc1 k)) = true) (hl : C.hp0.length ≤ k) :
    Le C ⟨env, hp⟩ ⟨env1, hp.take k⟩ := by
  intro γ κ a W hC
  refine ⟨γ, κ, ?_⟩
  have hlen : (hp.take k).length ≤ hp.length := by simp; omega
  have hget : ∀ id, id < k → (hp.take k)[id]? = hp[id]? := fun id hi => List.getElem?_take_of_lt hi
  have hN : ∀ b, nset C.X γ (hp.take k).length b → nset C.X γ hp.length b := by
    rintro b (h | ⟨i, hi, hg⟩)
    · exact .inl h
    · exact .inr ⟨i, by omega, hg⟩
  obtain ⟨M, hM⟩ : ∃ M, M = St.mm ⟨env, hp⟩ C γ κ W := ⟨_, rfl⟩
  obtain ⟨M', hM'⟩ : ∃ M', M' = St.mm ⟨env1, hp.take k⟩ C γ κ W := ⟨_, rfl⟩
  have hkeep : ∀ {v x}, RepA M v x → v.sc k = true → RepA M' v x := fun h hs => by subst hM hM'; exact sc_keep (M := St.mm ⟨env, hp⟩ C γ κ W) (M' := St.mm ⟨env1, hp.take k⟩ C γ κ W) rfl hN rfl rfl hget h hs
  have hkeep1 : ∀ {v x}, RepA M v x → v.sc1 k = true → RepA M' v x := fun h hs => by subst hM hM'; exact sc1_keep (M := St.mm ⟨env, hp⟩ C γ κ W) (M' := St.mm ⟨env1, hp.take k⟩ C γ κ W) rfl hN rfl rfl hget h hs
  have hkeep0 : ∀ {v x}, RepA M v x → v.sc0 k = true → RepA M' v x := fun h hs => by subst hM hM'; exact sc0_keep (M := St.mm ⟨env, hp⟩ C γ κ W) (M' := St.mm ⟨env1, hp.take k⟩ C γ κ W) rfl hN rfl rfl hget h hs
  rw [List.all_eq_true] at hsc hblk
  have hos : ∀ x, RepA M (.os k b.rows.length) x → RepA M' (.imm (.sl rows)) x := by
    intro x h4
    subst hM hM'
    rw [nth_eq] at hb
    have hB := hC.blk k b hb
    have e2 := h4.os_val hb rfl
    subst e2
    rcases hB.mem with ⟨h1, h2, h3'⟩ | ⟨g, ys, sp, h1, h2, h3', h4'⟩
    · have : rows = [] := by
        rw [h2] at hr
        exact List.map_eq_nil_iff.1 hr.symm
      subst this
      rw [h2]
      exact .imm _ _ (.nil _ _)
    · by_cases hne : rows = []
      · subst hne
        have hn0 : b.rows.length = 0 := by rw [hr]; rfl
        rw [hn0]
        exact .imm _ _ (.nil _ _)
      · rw [h1]
        have hid : k < hp.length := (List.getElem?_eq_some_iff.1 hb).1
        have hrl : ∀ r ∈ rows, r.length = b.sz := by
          intro r hr'
          have := hB.rows (r.map .imm) (by rw [hr]; exact List.mem_map.2 ⟨r, hr', rfl⟩)
          simpa using this
        refine .imm _ _ (.sl rows ⟨g, 0, none⟩ b.rows.length _ b.sz ys hne hB.pos (by rw [hr, List.length_map]) hB.cap ?_ hrl ?_ ?_)
        · rintro (hx | ⟨i, hi, hg⟩)
          · exact (hC.own k g hid h1).1 hx
          · have hi' : i < k := by simp at hi; omega
            have := hC.inj i k g (Nat.lt_trans hi' hid) hid hg h1
            omega
        · intro j y hj
          have e : (⟨g, 0, none⟩ : Addr).add j = ⟨g, 0 + j, none⟩ := by unfold Addr.add; split <;> simp_all
          have h2' : W.heap[g]? = some (.cells (ys ++ sp).toArray b.ty (0, 0)) := h2
          show W.cell? _ = _
          rw [e, blk_cell h2']
          simp only [List.getElem?_toArray, Nat.zero_add]
          rw [List.getElem?_append_left (List.getElem?_eq_some_iff.1 hj).1]; exact hj
        · rw [hr, ← List.map_flatten] at h4'
          have key : ∀ {l : List IV} {ys : List Value}, All2 (RepA (St.mm ⟨env, hp⟩ C γ κ W)) (l.map .imm) ys → All2 (RepI W (nset C.X γ (hp.take k).length)) l ys := by
            intro l
            induction l with
            | nil => intro ys h; cases h; exact .nil
            | cons v l ih =>
              intro ys h
              cases h with
              | cons h1 h2 => cases h1 with
                | imm _ _ h1 => exact .cons (h1.keep fun b hb _ => ⟨rfl, fun hx => hb (hN b hx)⟩) (ih h2)
          exact key h4'
  have hf0 : ∀ {v x}, RepA M v x → (frz0 k (len b.rows) rows v).sc0 k = true → RepA M' (frz0 k (len b.rows) rows v) x := by
    intro v x h hs
    rcases frz0_cases k (len b.rows) rows v with ⟨e1, e2⟩ | e
    · rw [e2]
      subst e1
      rw [len_eq] at h
      exact hos x h
    · rw [e] at hs ⊢
      exact hkeep0 h hs
  have hl0 : ∀ {l : List AV} {xs : List Value}, All2 (RepA M) l xs → (l.map (frz0 k (len b.rows) rows)).all (AV.sc0 k) = true → All2 (RepA M') (l.map (frz0 k (len b.rows) rows)) xs := by
    intro l
    induction l with
    | nil => intro xs h _; cases h; exact .nil
    | cons v l ih =>
      intro xs h hs
      cases h with
      | cons h1 h2 =>
        simp only [List.map_cons, List.all_cons, Bool.and_eq_true] at hs
        exact .cons (hf0 h1 hs.1) (ih h2 hs.2)
  have hall : ∀ {v x}, RepA M v x → (frz k (len b.rows) rows v).sc1 k = true → RepA M' (frz k (len b.rows) rows v) x := by
    intro v x h hs
    rcases frz_cases k (len b.rows) rows v with ⟨l, e1, e2⟩ | ⟨l, e1, e2⟩ | e
    · rw [e2] at hs ⊢
      subst e1
      cases h with
      | agg _ xs h => exact .agg _ xs (hl0 h hs)
    · rw [e2] at hs ⊢
      subst e1
      cases h with
      | tup _ xs h => exact .tup _ xs (hl0 h hs)
    · rw [e] at hs ⊢
      rcases frz0_cases k (len b.rows) rows v with ⟨e1, e2⟩ | e
      · rw [e2]
        subst e1
        rw [len_eq] at h
        exact hos x h
      · rw [e] at hs ⊢
        exact hkeep1 h hs
  refine ⟨hC.size, hC.defers, ?_, ?_, fun i j g hi hj => hC.inj i j g (Nat.lt_of_lt_of_le hi hlen) (Nat.lt_of_lt_of_le hj hlen), fun i g hi => hC.own i g (Nat.lt_of_lt_of_le hi hlen), hC.xlt, hC.old, hC.hos, hC.htape, hC.hout, hC.hsize, ?_⟩
  · intro t' v h
    obtain ⟨⟨u, hu, hv⟩, p, h1, h2⟩ := getG henv h
    obtain ⟨x, h3, h4⟩ := hC.env t' u hu
    refine ⟨x, h3, ?_⟩
    have := hsc p h1
    rw [h2, ← hv] at this
    rw [← hv, ← hM']
    exact hall (by rw [hM]; exact h4) this
  · intro id b' hb'
    have hid : id < k := by
      have := (List.getElem?_eq_some_iff.1 (show (hp.take k)[id]? = some b' from hb')).1
      simp at this; omega
    have hb0 : hp[id]? = some b' := by rw [← hget id hid]; exact hb'
    have ho := hC.blk id b' hb0
    have hs := hblk b' (List.mem_of_getElem? hb')
    refine ⟨ho.pos, ho.rows, ho.cell, ho.cap, ho.capm, ?_⟩
    rcases ho.mem with h1 | ⟨g', ys', sp', h1, h2, h3, h4⟩
    · exact .inl h1
    · refine .inr ⟨g', ys', sp', h1, h2, h3, h4.mono_mem fun v x hm _ h => ?_⟩
      rw [← hM']
      refine hkeep1 (by rw [hM]; exact h) ?_
      obtain ⟨r, hr, hv⟩ := List.mem_flatten.1 hm
      rw [List.all_eq_true] at hs
      have := hs r hr
      rw [List.all_eq_true] at this
      exact this v hv
  · intro i b0 hb0
    obtain ⟨b, h1, h2⟩ := hC.lent i b0 hb0
    have : i < C.hp0.length := (List.getElem?_eq_some_iff.1 hb0).1
    exact ⟨b, by show (hp.take k)[i]? = _; rw [hget i (by omega)]; exact h1, h2⟩
/-- In a region, ahead of an operation that uses the list. -/
theorem AL.give (k : Nat) {env1 env : List (Nat × AV)} {hp : List Blk} {b : Blk} (rows : List (List IV)) {h1 : List Blk} (hb : nth hp k = some b) (hr : b.rows = rows.map (·.map .imm)) (henv : EnvG env (frz k (len b.rows) rows) env1) (hsc : env1.all (fun p => p.2.sc1 k) = true) (e1 : hp.take k = h1) (hblk : h1.all (fun b => b.rows.all fun r => r.all (AV.sc1 k)) = true) (hl : C.hp0.length ≤ k) {rest : List Oper}
    (h : AL C l Q rest ⟨env1, h1⟩) : AL C l Q rest ⟨env, hp⟩ := by
  subst e1
  exact AL.weak (Le.giveE k hb hr henv hsc hblk hl) h
end
end Go.Proofs.YtmhejcnaanocpaaGreat.A
namespace Go.Proofs.YtmhejcnaanocpaaGreat.A
set_option linter.unusedVariables false
set_option linter.unusedSimpArgs false
set_option maxRecDepth 100000
set_option maxHeartbeats 4000000
def restL (f : List Node) (h off : Int) : List Int := subP (nodeAt f h).data off 4294967295
def restN (f : List Node) (h off : Int) : Node := { n0 with kind := 3, doc := (nodeAt f h).doc, data := restL f h off }
def treeCh (parent made prev next : Int) : Change := { c0 with kind := 10, parent := parent, added := [made], prev := prev, next := next }
def splitCh (node other off : Int) : Change := { c0 with kind := 8, node := node, other := other, offset := off }
def rawT (doc : Int) (d : List Int) : AV := .agg [kav 3, sav es, sav es, sav es, sav es, sav es, .imm (.sl (d.map u16)), .nils, iav 0, .nils, iav doc, iav 0, iav 0, kav 0, bav false, bav false]
def rawTr (parent made prev next : Int) : AV := .agg [kav 10, iav 0, iav parent, iav 0, iav 0, iav 0, iav 0, iav 0, .nils, sav es, sav es, sav es, sav es, sav es, bav false, bav false, kav 0, sav es, sav es, sav es, sav es, sav es, .nils, .nils, iav 0, .nils, iav 0, iav 0, iav 0, kav 0, bav false, bav false, .imm (.sl ([made].map i64)), .nils, iav prev, iav next]
def rawSp (node other off : Int) : AV := .agg [kav 8, iav node, iav 0, iav 0, iav other, iav 0, iav off, iav 0, .nils, sav es, sav es, sav es, sav es, sav es, bav false, bav false, kav 0, sav es, sav es, sav es, sav es, sav es, .nils, .nils, iav 0, .nils, iav 0, iav 0, iav 0, kav 0, bav false, bav false, .nils, .nils, iav 0, iav 0]
theorem placeP_lo (f : List Node) (h : Int) : 0 ≤ placeP f h := by unfold placeP; omega
theorem placeP_hi (f : List Node) (h : Int) (hf : Fit f) : placeP f h ≤ 1000000000 := by
  have := idx_hi (nodeAt f (nodeAt f h).parent).kids h
  have := (hf.at (nodeAt f h).parent).kids
  unfold placeP; omega
theorem sub_len (l : List Int) (a b : Int) : (subP l a b).length ≤ l.length := by unfold subP; simp only [List.length_drop, List.length_take]; omega
/-- what Split does, once it is let. -/
structure SplitS (f : List Node) (h off : Int) (p1 p2 p3 p4 q : PS) (b1 : Bool) : Prop where
  made : DoR (pen0 f) (mkCh (f.length + 1) (restN f h off)) p1 b1
  lone : b1 = false ∨ (nodeAt f h).parent = 0 → p4 = p1
  ins : b1 = true → (nodeAt f h).parent ≠ 0 → ∃ b, DoR p1 (inCh (f.length + 1) (nodeAt f h).parent (placeP f h + 1)) p2 b
  tree : b1 = true → (nodeAt f h).parent ≠ 0 → ∃ b, DoR p2 (treeCh (nodeAt f h).parent (f.length + 1) h (besideP f h 1)) p3 b
  spl : b1 = true → (nodeAt f h).parent ≠ 0 → ∃ b, DoR p3 (splitCh h (f.length + 1) off) p4 b
  put : ∃ b, PutR h off (restL f h off).length [] p4 q b
theorem splitNo_c (f : List Node) (h off : Int) (hf : Fit f) (he : cfP f h true ≠ 0) : PureC Tryz.prog 12 [fav f, iav h, u32 off] (.tup [fav [], iav 0, .imm (.sl []), iav (cfP f h true)]) := by
  have c1 := cfault_c f h true hf
  obtain ⟨w, hw⟩ : ∃ w, w = cfP f h true := ⟨_, rfl⟩
  rw [← hw] at c1 he ⊢
  refine PureC.mk tabs Tryz.func12 104 [.cell 6 24, .tmp 7, .tmp 8, .tmp 9] rfl rfl rfl rfl rfl ?_; intro w0 X
  (repeat' (first | ((with_reducible show AL _ _ _ _ _); first | (refine AL.step tabs rfl ?_; try dsimp only [len, List.nil_append, List.cons_append]) | refine AL.op rfl (OpOK.call rfl rfl rfl rfl c1 rfl) ?_ | refine AL.nil ?_ | (refine AL.gsplitE rfl rfl rfl (fun hc => ?_) (fun hc => ?_) <;> (fail_if_success (exact absurd hc (by decide))) <;> (try simp only [hsx] at hc) <;> (try first | (exfalso; omega) | contradiction | (exfalso; simp [dec_eq] at hc; done))) | (refine AL.op rfl (OpOK.ari64 rfl rfl rfl rfl rfl (by omega) (by omega)) ?_)) | ((with_reducible show DQ _ _ _ _ _ _); first | refine DQ.stepc (LS.store (i := ti24) (v := .agg [.nils]) (ty := 24) (sz := 1) (rows := [ti24.zero]) (r := ti24.zero) tabs rfl rfl rfl rfl rfl rfl rfl rfl rfl rfl (Nat.le_of_ble_eq_true rfl) rfl) rfl rfl rfl rfl rfl ?_ | refine DQ.stepc (LS.val tabs rfl rfl rfl) rfl rfl rfl rfl rfl ?_ | refine DQ.stepc (LS.skip rfl rfl) rfl rfl rfl rfl rfl ?_ | refine DQ.nilM (by kernel_rfl) ?_ | refine DQ.stepc (LS.ari64 rfl rfl rfl rfl rfl rfl (by omega) (by omega)) rfl rfl rfl rfl rfl ?_ | (refine DQ.gsplitE rfl rfl rfl (fun hc => ?_) (fun hc => ?_) <;> (fail_if_success (exact absurd hc (by decide))) <;> (try simp only [hsx] at hc) <;> (try first | (exfalso; omega) | contradiction | (exfalso; simp [dec_eq] at hc; done)))) | refine AW.seq ?_ | refine AW.region ?_ | refine Then.norm ?_ | refine AW.skip ?_ | refine AW.condT rfl ?_ | refine AW.condF rfl ?_ | (refine AW.cond rfl (fun hc => ?_) (fun hc => ?_) <;> (try simp only [hsx] at hc) <;> (try first | (exfalso; omega) | contradiction | (exfalso; simp [dec_eq] at hc; done))) | refine AW.ret ?_ | refine Then.ret ?_ | refine AW.drawW mixed (by kernel_rfl) ?_))
  all_goals first
    | (exfalso; exact he hc)
    | exact RQ.fin rfl rfl rfl
    | (trace_state; sorry)
theorem splitOff_c (f : List Node) (h off : Int) (hf : Fit f) (he : cfP f h true = 0) (h0 : 0 ≤ off) (h1 : off < 4294967296) (ho : (nodeAt f h).data.length < off) : PureC Tryz.prog 12 [fav f, iav h, u32 off] (.tup [fav [], iav 0, .imm (.sl []), iav 14]) := by
  have c1 := cfault_c f h true hf
  rw [he] at c1
  have c2 := treeAt_c f h hf.len
  have c3 := sub_c (nodeAt f h).data off 4294967295 h0 h1 (by omega) (by omega) (hf.at h).data
  rw [if_neg (by omega), if_neg (by omega)] at c3
  refine PureC.mk tabs Tryz.func12 104 [.cell 6 24, .tmp 7, .tmp 8, .tmp 9] rfl rfl rfl rfl rfl ?_; intro w0 X
  (repeat' (first | ((with_reducible show AL _ _ _ _ _); first | (refine AL.step tabs rfl ?_; try dsimp only [len, List.nil_append, List.cons_append]) | refine AL.op rfl (OpOK.call rfl rfl rfl rfl c1 rfl) ?_ | refine AL.op rfl (OpOK.call rfl rfl rfl rfl c2 rfl) ?_ | refine AL.op rfl (OpOK.call rfl rfl rfl rfl c3 rfl) ?_ | refine AL.nil ?_ | (refine AL.gsplitE rfl rfl rfl (fun hc => ?_) (fun hc => ?_) <;> (fail_if_success (exact absurd hc (by decide))) <;> (try simp only [hsx] at hc) <;> (try first | (exfalso; omega) | contradiction | (exfalso; simp [dec_eq] at hc; done))) | (refine AL.op rfl (OpOK.ari64 rfl rfl rfl rfl rfl (by omega) (by omega)) ?_)) | ((with_reducible show DQ _ _ _ _ _ _); first | refine DQ.stepc (LS.store (i := ti24) (v := .agg [.nils]) (ty := 24) (sz := 1) (rows := [ti24.zero]) (r := ti24.zero) tabs rfl rfl rfl rfl rfl rfl rfl rfl rfl rfl (Nat.le_of_ble_eq_true rfl) rfl) rfl rfl rfl rfl rfl ?_ | refine DQ.stepc (LS.store (i := ti44) (v := (nodeAt f h).av) (ty := 44) (sz := 16) (rows := [ti44.zero]) (r := ti44.zero) tabs rfl rfl rfl rfl rfl rfl rfl rfl rfl rfl (Nat.le_of_ble_eq_true rfl) rfl) rfl rfl rfl rfl rfl ?_ | refine DQ.stepc (LS.val tabs rfl rfl rfl) rfl rfl rfl rfl rfl ?_ | refine DQ.stepc (LS.skip rfl rfl) rfl rfl rfl rfl rfl ?_ | refine DQ.nilM (by kernel_rfl) ?_ | refine DQ.stepc (LS.ari64 rfl rfl rfl rfl rfl rfl (by omega) (by omega)) rfl rfl rfl rfl rfl ?_ | (refine DQ.gsplitE rfl rfl rfl (fun hc => ?_) (fun hc => ?_) <;> (fail_if_success (exact absurd hc (by decide))) <;> (try simp only [hsx] at hc) <;> (try first | (exfalso; omega) | contradiction | (exfalso; simp [dec_eq] at hc; done)))) | refine AW.seq ?_ | refine AW.region ?_ | refine Then.norm ?_ | refine AW.skip ?_ | refine AW.condT rfl ?_ | refine AW.condF rfl ?_ | (refine AW.cond rfl (fun hc => ?_) (fun hc => ?_) <;> (try simp only [hsx] at hc) <;> (try first | (exfalso; omega) | contradiction | (exfalso; simp [dec_eq] at hc; done))) | refine AW.ret ?_ | refine Then.ret ?_ | refine AW.drawW mixed (by kernel_rfl) ?_))
  all_goals first
    | exact RQ.fin rfl rfl rfl
    | (trace_state; sorry)
/-- what is answered. -/
noncomputable def ansS (q : PS) (made : Int) : AV := if q.why = 0 then .tup [fav q.F, iav made, .imm (.sl (q.L.map Change.iv)), iav 0] else .tup [fav [], iav 0, .imm (.sl []), iav q.why]
theorem split_c (f : List Node) (h off : Int) (p1 p2 p3 p4 q : PS) (b1 : Bool) (hf : Fit f) (he : cfP f h true = 0) (h0 : 0 ≤ off) (h1 : off < 4294967296) (ho : off ≤ (nodeAt f h).data.length) (S : SplitS f h off p1 p2 p3 p4 q b1)
    (hf4 : Fit p4.F) (hL1 : p1.L.length ≤ 1000000) (hL2 : p2.L.length ≤ 1000000) (hL3 : p3.L.length ≤ 1000000) (hL4 : p4.L.length ≤ 1000000) (hL : q.L.length ≤ 1000000) (hL0 : q.why = 0 → q.L ≠ []) (hfc : ∀ i : Int, 0 ≤ i → i < q.L.length → FitC (atI q.L i)) :
    PureC Tryz.prog 12 [fav f, iav h, u32 off] (ansS q (if b1 = true then f.length + 1 else 0)) := by
  have hl := hf.len
  have c1 := cfault_c f h true hf
  rw [he] at c1
  have c2 := treeAt_c f h hl
  have hdl := (hf.at h).data
  have c3 := sub_c (nodeAt f h).data off 4294967295 h0 h1 (by omega) (by omega) hdl
  rw [if_pos ho, if_pos ho] at c3
  have hrl : (restL f h off).length ≤ 1000000000 := Nat.le_trans (sub_len _ _ _) hdl
  rw [show subP (nodeAt f h).data off 4294967295 = restL f h off from rfl] at c3
  have c4 := GenC.cv (ab := [.ptr 0 1 0 0, rawT (nodeAt f h).doc (restL f h off)]) (make_c (pen0 f) p1 (restN f h off) b1 hl (by simp [pen0]) S.made) rfl
  obtain ⟨x, hx⟩ : ∃ x : Int, x = if b1 = true then (f.length : Int) + 1 else 0 := ⟨_, rfl⟩
  have hx' : mkX (pen0 f) b1 = x := by rw [hx]; cases b1 <;> rfl
  rw [hx'] at c4
  rw [← hx]
  have c5 := beside_c f h 1 hf (by omega) (by omega)
  have c6 := place_c f h hf
  have hp0 := placeP_lo f h
  have hp1 := placeP_hi f h hf
  have hxb : x ≠ 0 → b1 = true := by rw [hx]; cases b1 <;> simp
  have hxe : x ≠ 0 → x = f.length + 1 := by intro h; rw [hx, if_pos (hxb h)]
  obtain ⟨b5, H5⟩ := S.put
  have c7 := GenC.cv (ab := [.ptr 0 1 0 0, iav h, u32 off, u32 (restL f h off).length, .nils]) (put0_c p4 q h off (restL f h off).length [] b5 hf4 hL4 h0 h1 (by omega) (by omega) (by simp) H5) rfl
  unfold penB at c7
  have hmr : (List.map u16 (restL f h off)).length = (restL f h off).length := List.length_map _
  rw [← hmr] at c7
  obtain ⟨n, hn⟩ : ∃ n, n = nodeAt f h := ⟨_, rfl⟩
  refine PureC.mk tabs Tryz.func12 104 [.cell 6 24, .tmp 7, .tmp 8, .tmp 9] rfl rfl rfl rfl rfl ?_; intro w0 X
  refine AW.reserve 112 3 rfl ?_
  (repeat' (first | ((with_reducible show AL _ _ _ _ _); first | (refine AL.step tabs rfl ?_; try dsimp only [len, List.nil_append, List.cons_append]) | refine AL.op rfl (OpOK.call rfl rfl rfl rfl c1 rfl) ?_ | refine AL.op rfl (OpOK.call rfl rfl rfl rfl c2 rfl) ?_ | refine AL.op rfl (OpOK.call rfl rfl rfl rfl c3 rfl) ?_ | refine AL.callG [0] 4 rfl rfl rfl rfl rfl (caps := []) rfl (on_c f) rfl rfl rfl rfl rfl rfl rfl rfl (hpA := [⟨112, 3, [[.imm (.sl (f.map Node.iv)), .os 5 0, iav 0]]⟩, ⟨24, 1, [[.imm (.sl (f.map Node.iv))]]⟩, ⟨58, 36, []⟩]) rfl (r' := .ptr 0 1 0 0) rfl rfl ?_; try dsimp only [setAll, List.drop_succ_cons, List.drop_zero, List.drop_nil, List.set_cons_succ, List.set_cons_zero, List.cons_append, List.nil_append, List.append_nil, len, Nat.reduceAdd] | refine AL.callG [0, 5] 6 rfl rfl rfl rfl rfl (caps := []) rfl c4 rfl (by simp only [List.map_cons, List.map_nil, renC]; rfl) rfl rfl (by simp only [List.all_cons, List.all_nil, Bool.and_true, Bool.and_eq_true]; exact ⟨⟨rfl, rfl, rfl⟩, rowC_sc _ _⟩) rfl (by simp only [List.all_cons, List.all_nil, Bool.and_true, Bool.and_eq_true]; exact ⟨⟨rfl, rfl, rfl⟩, rowC_sc _ _⟩) rfl (hpA := [⟨112, 3, [[.imm (.sl ((p1).F.map Node.iv)), .os 5 (p1).L.length, iav (p1).why]]⟩, ⟨58, 36, (p1).L.map rowC⟩]) (by simp only [List.map_cons, List.map_nil, renC]; rfl) (r' := iav x) rfl rfl ?_; try dsimp only [setAll, List.drop_succ_cons, List.drop_zero, List.drop_nil, List.set_cons_succ, List.set_cons_zero, List.cons_append, List.nil_append, List.append_nil, len, Nat.reduceAdd] | refine AL.nil ?_ | (refine AL.gsplitE rfl rfl rfl (fun hc => ?_) (fun hc => ?_) <;> (fail_if_success (exact absurd hc (by decide))) <;> (try simp only [hsx] at hc) <;> (try first | (exfalso; omega) | contradiction | (exfalso; simp [dec_eq] at hc; done))) | (refine AL.op rfl (OpOK.ari64 rfl rfl rfl rfl rfl (by omega) (by omega)) ?_)) | ((with_reducible show DQ _ _ _ _ _ _); first | refine DQ.stepc (LS.store (i := ti44) (v := (nodeAt f h).av) (ty := 44) (sz := 16) (rows := [ti44.zero]) (r := ti44.zero) tabs rfl rfl rfl rfl rfl rfl rfl rfl rfl rfl (Nat.le_of_ble_eq_true rfl) rfl) rfl rfl rfl rfl rfl ?_ | refine DQ.stepc (LS.val tabs rfl rfl rfl) rfl rfl rfl rfl rfl ?_ | refine DQ.stepc (LS.skip rfl rfl) rfl rfl rfl rfl rfl ?_ | refine DQ.nilM (by kernel_rfl) ?_ | refine DQ.stepc (LS.ari64 rfl rfl rfl rfl rfl rfl (by omega) (by omega)) rfl rfl rfl rfl rfl ?_ | (refine DQ.gsplitE rfl rfl rfl (fun hc => ?_) (fun hc => ?_) <;> (fail_if_success (exact absurd hc (by decide))) <;> (try simp only [hsx] at hc) <;> (try first | (exfalso; omega) | contradiction | (exfalso; simp [dec_eq] at hc; done)))) | refine AW.meet (t := 54) True ⟨[(1, iav h), (2, u32 off), (6, .ptr 2 1 0 0), (12, .imm (.sl ((restL f h off).map u16))), (14, .ptr 0 1 0 0), (15, iav x)], [⟨112, 3, [[.imm (.sl ((p4).F.map Node.iv)), .os 5 (p4).L.length, iav (p4).why]]⟩, ⟨24, 1, [[.imm (.sl (f.map Node.iv))]]⟩, ⟨24, 1, [[.nils]]⟩, ⟨44, 16, [rowS (nodeAt f h)]⟩, ⟨24, 1, [[.imm (.sl (f.map Node.iv))]]⟩, ⟨58, 36, (p4).L.map rowC⟩]⟩ ?_ (fun _ => ?_) | refine AW.seq ?_ | refine AW.region ?_ | refine Then.norm ?_ | refine AW.skip ?_ | refine AW.condT rfl ?_ | refine AW.condF rfl ?_ | (refine AW.cond rfl (fun hc => ?_) (fun hc => ?_) <;> (try simp only [hsx] at hc) <;> (try first | (exfalso; omega) | contradiction | (exfalso; simp [dec_eq] at hc; done))) | refine AW.ret ?_ | refine Then.ret ?_ | refine AW.drawW mixed (by kernel_rfl) ?_))
  · have hb := hxb (by assumption)
    have hx1 := hxe (by assumption)
    obtain ⟨b2, H2⟩ := S.ins hb (by assumption)
    obtain ⟨b3, H3⟩ := S.tree hb (by assumption)
    obtain ⟨b4, H4⟩ := S.spl hb (by assumption)
    rw [← hx1] at H2 H3 H4
    have d2 := GenC.cv (ab := [.ptr 0 1 0 0, rawIn x (nodeAt f h).parent (placeP f h + 1)]) (do_c p1 p2 _ b2 hL1 H2) rfl
    have d3 := GenC.cv (ab := [.ptr 0 1 0 0, rawTr (nodeAt f h).parent x h (besideP f h 1)]) (do_c p2 p3 _ b3 hL2 H3) rfl
    have d4 := GenC.cv (ab := [.ptr 0 1 0 0, rawSp h x off]) (do_c p3 p4 _ b4 hL3 H4) rfl
    (repeat' (first | ((with_reducible show AL _ _ _ _ _); first | refine AL.give 6 (h1 := [⟨112, 3, [[.imm (.sl ((p2).F.map Node.iv)), .os 5 (p2).L.length, iav (p2).why]]⟩, ⟨24, 1, [[.imm (.sl (f.map Node.iv))]]⟩, ⟨24, 1, [[.nils]]⟩, ⟨44, 16, [rowS (nodeAt f h)]⟩, ⟨24, 1, [[.imm (.sl (f.map Node.iv))]]⟩, ⟨58, 36, (p2).L.map rowC⟩]) (env1 := [(68, .ptr 0 1 0 0), (75, rawTr (nodeAt f h).parent x h (besideP f h 1)), (1, iav h), (2, u32 off), (6, .ptr 2 1 0 0), (12, .imm (.sl ((restL f h off).map u16))), (14, .ptr 0 1 0 0), (15, iav x)]) ([x].map i64) rfl rfl ⟨⟨_, rfl, rfl⟩, ⟨_, rfl, rfl⟩, ⟨_, rfl, rfl⟩, ⟨_, rfl, rfl⟩, ⟨_, rfl, rfl⟩, ⟨_, rfl, rfl⟩, ⟨_, rfl, rfl⟩, ⟨_, rfl, rfl⟩, trivial⟩ rfl rfl (by simp only [List.all_cons, List.all_nil, Bool.and_true, Bool.and_eq_true]; exact ⟨⟨rfl, rfl, rfl⟩, rfl, rfl, rowS_all (nodeAt f h) _, rfl, rowC_sc _ _⟩) (Nat.zero_le _) ?_ | refine AL.op rfl (OpOK.toI64 tabs rfl rfl rfl rfl rfl rfl (by omega) (by omega)) ?_ | (refine AL.step tabs rfl ?_; try dsimp only [len, List.nil_append, List.cons_append]) | refine AL.op rfl (OpOK.call rfl rfl rfl rfl c5 rfl) ?_ | refine AL.callG [0, 5] 6 rfl rfl rfl rfl rfl (caps := []) rfl d3 rfl (by simp only [List.map_cons, List.map_nil, renC]; rfl) rfl rfl (by simp only [List.all_cons, List.all_nil, Bool.and_true, Bool.and_eq_true]; exact ⟨⟨rfl, rfl, rfl⟩, rowC_sc _ _⟩) rfl (by simp only [List.all_cons, List.all_nil, Bool.and_true, Bool.and_eq_true]; exact ⟨⟨rfl, rfl, rfl⟩, rowC_sc _ _⟩) rfl (hpA := [⟨112, 3, [[.imm (.sl ((p3).F.map Node.iv)), .os 5 (p3).L.length, iav (p3).why]]⟩, ⟨58, 36, (p3).L.map rowC⟩]) (by simp only [List.map_cons, List.map_nil, renC]; rfl) (r' := bav b3) rfl rfl ?_; try dsimp only [setAll, List.drop_succ_cons, List.drop_zero, List.drop_nil, List.set_cons_succ, List.set_cons_zero, List.cons_append, List.nil_append, List.append_nil, len, Nat.reduceAdd] | refine AL.callG [0, 5] 6 rfl rfl rfl rfl rfl (caps := []) rfl d4 rfl (by simp only [List.map_cons, List.map_nil, renC]; rfl) rfl rfl (by simp only [List.all_cons, List.all_nil, Bool.and_true, Bool.and_eq_true]; exact ⟨⟨rfl, rfl, rfl⟩, rowC_sc _ _⟩) rfl (by simp only [List.all_cons, List.all_nil, Bool.and_true, Bool.and_eq_true]; exact ⟨⟨rfl, rfl, rfl⟩, rowC_sc _ _⟩) rfl (hpA := [⟨112, 3, [[.imm (.sl ((p4).F.map Node.iv)), .os 5 (p4).L.length, iav (p4).why]]⟩, ⟨58, 36, (p4).L.map rowC⟩]) (by simp only [List.map_cons, List.map_nil, renC]; rfl) (r' := bav b4) rfl rfl ?_; try dsimp only [setAll, List.drop_succ_cons, List.drop_zero, List.drop_nil, List.set_cons_succ, List.set_cons_zero, List.cons_append, List.nil_append, List.append_nil, len, Nat.reduceAdd] | refine AL.nil ?_ | (refine AL.gsplitE rfl rfl rfl (fun hc => ?_) (fun hc => ?_) <;> (fail_if_success (exact absurd hc (by decide))) <;> (try simp only [hsx] at hc) <;> (try first | (exfalso; omega) | contradiction | (exfalso; simp [dec_eq] at hc; done))) | (refine AL.op rfl (OpOK.ari64 rfl rfl rfl rfl rfl (by omega) (by omega)) ?_)) | ((with_reducible show DQ _ _ _ _ _ _); first | refine DQ.stepc (LS.call rfl rfl rfl rfl rfl c6 rfl) rfl rfl rfl rfl rfl ?_ | refine DQ.stepc (LS.val tabs rfl rfl rfl) rfl rfl rfl rfl rfl ?_ | refine DQ.stepc (LS.skip rfl rfl) rfl rfl rfl rfl rfl ?_ | refine DQ.nilM (by kernel_rfl) ?_ | refine DQ.stepc (LS.ari64 rfl rfl rfl rfl rfl rfl (by omega) (by omega)) rfl rfl rfl rfl rfl ?_ | (refine DQ.gsplitE rfl rfl rfl (fun hc => ?_) (fun hc => ?_) <;> (fail_if_success (exact absurd hc (by decide))) <;> (try simp only [hsx] at hc) <;> (try first | (exfalso; omega) | contradiction | (exfalso; simp [dec_eq] at hc; done)))) | ((with_reducible show M2.DQ _ _ _ _ _ _); first | refine M2.DQ.step2 (M2.LS.callG [0, 5] (caps := []) rfl rfl rfl rfl rfl d2 (fun _ => rfl) (bs := [⟨112, 3, [[.imm (.sl ((p1).F.map Node.iv)), .os 5 (p1).L.length, iav (p1).why]]⟩, ⟨58, 36, (p1).L.map rowC⟩]) rfl (fun n => by simp only [List.map_cons, List.map_nil, renC]; rfl) rfl rfl (by simp only [List.all_cons, List.all_nil, Bool.and_true, Bool.and_eq_true]; exact ⟨⟨rfl, rfl, rfl⟩, rowC_sc _ _⟩) rfl (by simp only [List.all_cons, List.all_nil, Bool.and_true, Bool.and_eq_true]; exact ⟨⟨rfl, rfl, rfl⟩, rowC_sc _ _⟩) rfl (hpA := [⟨112, 3, [[.imm (.sl ((p2).F.map Node.iv)), .os 5 (p2).L.length, iav (p2).why]]⟩, ⟨58, 36, (p2).L.map rowC⟩]) (fun n => by simp only [List.map_cons, List.map_nil, renC]; rfl) (r' := bav b2) (fun _ => rfl)) rfl rfl rfl rfl rfl ?_ | refine M2.DQ.stepc (LS.call rfl rfl rfl rfl rfl c6 rfl) rfl rfl rfl rfl rfl ?_ | refine M2.DQ.stepc (LS.val tabs rfl rfl rfl) rfl rfl rfl rfl rfl ?_ | refine M2.DQ.stepc (LS.skip rfl rfl) rfl rfl rfl rfl rfl ?_ | refine M2.DQ.nilM (by kernel_rfl) ?_ | refine M2.DQ.stepc (LS.ari64 rfl rfl rfl rfl rfl rfl (by omega) (by omega)) rfl rfl rfl rfl rfl ?_ | (refine M2.DQ.gsplitE rfl rfl rfl (fun hc => ?_) (fun hc => ?_) <;> (fail_if_success (exact absurd hc (by decide))) <;> (try simp only [hsx] at hc) <;> (try first | (exfalso; omega) | contradiction | (exfalso; simp [dec_eq] at hc; done)))) | refine M2.drawW (id := 12) mixed (by kernel_rfl) ?_ | refine AW.seq ?_ | refine AW.region ?_ | refine Then.norm ?_ | refine AW.skip ?_ | refine AW.condT rfl ?_ | refine AW.condF rfl ?_ | (refine AW.cond rfl (fun hc => ?_) (fun hc => ?_) <;> (try simp only [hsx] at hc) <;> (try first | (exfalso; omega) | contradiction | (exfalso; simp [dec_eq] at hc; done))) | refine AW.ret ?_ | refine Then.ret ?_ | refine AW.drawW mixed (by kernel_rfl) ?_))
    all_goals first
      | exact Meet.of trivial (Le.cut 6 rfl (by repeat' (first | exact trivial | refine ⟨rfl, ?_⟩)) rfl (by simp only [List.all_cons, List.all_nil, Bool.and_true, Bool.and_eq_true]; exact ⟨⟨rfl, rfl, rfl⟩, rfl, rfl, rowS_all (nodeAt f h) _, rfl, rowC_sc _ _⟩) (Nat.zero_le _))
      | (trace_state; sorry)
  · have e := S.lone (.inr (by assumption))
    subst e
    exact Meet.of trivial (Le.cut 6 rfl (by repeat' (first | exact trivial | refine ⟨rfl, ?_⟩)) rfl (by simp only [List.all_cons, List.all_nil, Bool.and_true, Bool.and_eq_true]; exact ⟨⟨rfl, rfl, rfl⟩, rfl, rfl, rowS_all (nodeAt f h) _, rfl, rowC_sc _ _⟩) (Nat.zero_le _))
  · have e := S.lone (.inl (by rw [hc] at hx; cases b1 <;> simp at hx <;> first | rfl | omega))
    subst e
    exact Meet.of trivial (Le.cut 6 rfl (by repeat' (first | exact trivial | refine ⟨rfl, ?_⟩)) rfl (by simp only [List.all_cons, List.all_nil, Bool.and_true, Bool.and_eq_true]; exact ⟨⟨rfl, rfl, rfl⟩, rfl, rfl, rowS_all (nodeAt f h) _, rfl, rowC_sc _ _⟩) (Nat.zero_le _))
  · unfold ansS
    by_cases hw : q.why = 0
    · rw [if_pos hw]
      have c8 := end_c q hw hL (hL0 hw) hfc
      (repeat' (first | ((with_reducible show AL _ _ _ _ _); first | refine AL.op rfl (OpOK.toU32 tabs rfl rfl rfl rfl rfl rfl (by omega) (by omega)) ?_ | (refine AL.step tabs rfl ?_; try dsimp only [len, List.nil_append, List.cons_append]) | refine AL.callG [0, 5] 6 rfl rfl rfl rfl rfl (caps := []) rfl c7 rfl (by simp only [List.map_cons, List.map_nil, renC]; rfl) rfl rfl (by simp only [List.all_cons, List.all_nil, Bool.and_true, Bool.and_eq_true]; exact ⟨⟨rfl, rfl, rfl⟩, rowC_sc _ _⟩) rfl (by simp only [List.all_cons, List.all_nil, Bool.and_true, Bool.and_eq_true]; exact ⟨⟨rfl, rfl, rfl⟩, rowC_sc _ _⟩) rfl (hpA := [⟨112, 3, [[.imm (.sl ((q).F.map Node.iv)), .os 5 (q).L.length, iav (q).why]]⟩, ⟨58, 36, (q).L.map rowC⟩]) (by simp only [List.map_cons, List.map_nil, renC]; rfl) (r' := bav b5) rfl rfl ?_; try dsimp only [setAll, List.drop_succ_cons, List.drop_zero, List.drop_nil, List.set_cons_succ, List.set_cons_zero, List.cons_append, List.nil_append, List.append_nil, len, Nat.reduceAdd] | refine AL.callG [0, 5] 6 rfl rfl rfl rfl rfl (caps := []) rfl c8 rfl (by simp only [List.map_cons, List.map_nil, renC]; rfl) rfl rfl (by simp only [List.all_cons, List.all_nil, Bool.and_true, Bool.and_eq_true]; exact ⟨⟨rfl, rfl, rfl⟩, rowC_sc _ _⟩) rfl (by simp only [List.all_cons, List.all_nil, Bool.and_true, Bool.and_eq_true]; exact ⟨⟨rfl, rfl, rfl⟩, rowC_sc _ _, rfl, rowC_sc _ _⟩) rfl (hpA := [⟨112, 3, [[.imm (.sl ((q).F.map Node.iv)), .os 5 (q).L.length, iav (q).why]]⟩, ⟨58, 36, (q).L.map rowC⟩, ⟨24, 1, [[.imm (.sl ((q).F.map Node.iv))]]⟩, ⟨58, 36, (q).L.map rowC⟩]) (by simp only [List.map_cons, List.map_nil, renC]; rfl) (r' := .tup [fav q.F, .os 7 q.L.length, iav 0]) rfl rfl ?_; try dsimp only [setAll, List.drop_succ_cons, List.drop_zero, List.drop_nil, List.set_cons_succ, List.set_cons_zero, List.cons_append, List.nil_append, List.append_nil, len, Nat.reduceAdd] | refine AL.nil ?_ | (refine AL.gsplitE rfl rfl rfl (fun hc => ?_) (fun hc => ?_) <;> (fail_if_success (exact absurd hc (by decide))) <;> (try simp only [hsx] at hc) <;> (try first | (exfalso; omega) | contradiction | (exfalso; simp [dec_eq] at hc; done))) | (refine AL.op rfl (OpOK.ari64 rfl rfl rfl rfl rfl (by omega) (by omega)) ?_)) | ((with_reducible show DQ _ _ _ _ _ _); first | refine DQ.stepc (LS.store (i := ti24) (v := fav q.F) (ty := 24) (sz := 1) (rows := [ti24.zero]) (r := ti24.zero) tabs rfl rfl rfl rfl rfl rfl rfl rfl rfl rfl (Nat.le_of_ble_eq_true rfl) rfl) rfl rfl rfl rfl rfl ?_ | refine DQ.stepc (LS.val tabs rfl rfl rfl) rfl rfl rfl rfl rfl ?_ | refine DQ.stepc (LS.skip rfl rfl) rfl rfl rfl rfl rfl ?_ | refine DQ.nilM (by kernel_rfl) ?_ | refine DQ.stepc (LS.ari64 rfl rfl rfl rfl rfl rfl (by omega) (by omega)) rfl rfl rfl rfl rfl ?_ | (refine DQ.gsplitE rfl rfl rfl (fun hc => ?_) (fun hc => ?_) <;> (fail_if_success (exact absurd hc (by decide))) <;> (try simp only [hsx] at hc) <;> (try first | (exfalso; omega) | contradiction | (exfalso; simp [dec_eq] at hc; done)))) | refine AW.seq ?_ | refine AW.region ?_ | refine Then.norm ?_ | refine AW.skip ?_ | refine AW.condT rfl ?_ | refine AW.condF rfl ?_ | (refine AW.cond rfl (fun hc => ?_) (fun hc => ?_) <;> (try simp only [hsx] at hc) <;> (try first | (exfalso; omega) | contradiction | (exfalso; simp [dec_eq] at hc; done))) | refine AW.ret ?_ | refine Then.ret ?_ | refine AW.drawW mixed (by kernel_rfl) ?_))
      all_goals first
        | exact RQ.ret rfl (Fz.tup (.cons (Fz.im rfl) (.cons (Fz.im rfl) (.cons (Fz.os (b := ⟨58, 36, q.L.map rowC⟩) (rows := q.L.map Change.iv) rfl (List.length_map _).symm (by rw [List.map_map]; rfl)) (.cons (Fz.im rfl) .nil)))))
        | (trace_state; sorry)
    · rw [if_neg hw]
      have c8 := end0_c q hw
      (repeat' (first | ((with_reducible show AL _ _ _ _ _); first | refine AL.op rfl (OpOK.toU32 tabs rfl rfl rfl rfl rfl rfl (by omega) (by omega)) ?_ | (refine AL.step tabs rfl ?_; try dsimp only [len, List.nil_append, List.cons_append]) | refine AL.callG [0, 5] 6 rfl rfl rfl rfl rfl (caps := []) rfl c7 rfl (by simp only [List.map_cons, List.map_nil, renC]; rfl) rfl rfl (by simp only [List.all_cons, List.all_nil, Bool.and_true, Bool.and_eq_true]; exact ⟨⟨rfl, rfl, rfl⟩, rowC_sc _ _⟩) rfl (by simp only [List.all_cons, List.all_nil, Bool.and_true, Bool.and_eq_true]; exact ⟨⟨rfl, rfl, rfl⟩, rowC_sc _ _⟩) rfl (hpA := [⟨112, 3, [[.imm (.sl ((q).F.map Node.iv)), .os 5 (q).L.length, iav (q).why]]⟩, ⟨58, 36, (q).L.map rowC⟩]) (by simp only [List.map_cons, List.map_nil, renC]; rfl) (r' := bav b5) rfl rfl ?_; try dsimp only [setAll, List.drop_succ_cons, List.drop_zero, List.drop_nil, List.set_cons_succ, List.set_cons_zero, List.cons_append, List.nil_append, List.append_nil, len, Nat.reduceAdd] | refine AL.callG [0, 5] 6 rfl rfl rfl rfl rfl (caps := []) rfl c8 rfl (by simp only [List.map_cons, List.map_nil, renC]; rfl) rfl rfl (by simp only [List.all_cons, List.all_nil, Bool.and_true, Bool.and_eq_true]; exact ⟨⟨rfl, rfl, rfl⟩, rowC_sc _ _⟩) rfl (by simp only [List.all_cons, List.all_nil, Bool.and_true, Bool.and_eq_true]; exact ⟨⟨rfl, rfl, rfl⟩, rowC_sc _ _⟩) rfl (hpA := [⟨112, 3, [[.imm (.sl ((q).F.map Node.iv)), .os 5 (q).L.length, iav (q).why]]⟩, ⟨58, 36, (q).L.map rowC⟩]) (by simp only [List.map_cons, List.map_nil, renC]; rfl) (r' := .tup [.agg [.nils], .nils, iav q.why]) rfl rfl ?_; try dsimp only [setAll, List.drop_succ_cons, List.drop_zero, List.drop_nil, List.set_cons_succ, List.set_cons_zero, List.cons_append, List.nil_append, List.append_nil, len, Nat.reduceAdd] | refine AL.nil ?_ | (refine AL.gsplitE rfl rfl rfl (fun hc => ?_) (fun hc => ?_) <;> (fail_if_success (exact absurd hc (by decide))) <;> (try simp only [hsx] at hc) <;> (try first | (exfalso; omega) | contradiction | (exfalso; simp [dec_eq] at hc; done))) | (refine AL.op rfl (OpOK.ari64 rfl rfl rfl rfl rfl (by omega) (by omega)) ?_)) | ((with_reducible show DQ _ _ _ _ _ _); first | refine DQ.stepc (LS.store (i := ti24) (v := .agg [.nils]) (ty := 24) (sz := 1) (rows := [ti24.zero]) (r := ti24.zero) tabs rfl rfl rfl rfl rfl rfl rfl rfl rfl rfl (Nat.le_of_ble_eq_true rfl) rfl) rfl rfl rfl rfl rfl ?_ | refine DQ.stepc (LS.val tabs rfl rfl rfl) rfl rfl rfl rfl rfl ?_ | refine DQ.stepc (LS.skip rfl rfl) rfl rfl rfl rfl rfl ?_ | refine DQ.nilM (by kernel_rfl) ?_ | refine DQ.stepc (LS.ari64 rfl rfl rfl rfl rfl rfl (by omega) (by omega)) rfl rfl rfl rfl rfl ?_ | (refine DQ.gsplitE rfl rfl rfl (fun hc => ?_) (fun hc => ?_) <;> (fail_if_success (exact absurd hc (by decide))) <;> (try simp only [hsx] at hc) <;> (try first | (exfalso; omega) | contradiction | (exfalso; simp [dec_eq] at hc; done)))) | refine AW.seq ?_ | refine AW.region ?_ | refine Then.norm ?_ | refine AW.skip ?_ | refine AW.condT rfl ?_ | refine AW.condF rfl ?_ | (refine AW.cond rfl (fun hc => ?_) (fun hc => ?_) <;> (try simp only [hsx] at hc) <;> (try first | (exfalso; omega) | contradiction | (exfalso; simp [dec_eq] at hc; done))) | refine AW.ret ?_ | refine Then.ret ?_ | refine AW.drawW mixed (by kernel_rfl) ?_))
      all_goals first
        | exact RQ.fin rfl rfl rfl
        | (trace_state; sorry)
end Go.Proofs.YtmhejcnaanocpaaGreat.A
namespace Go.Proofs.YtmhejcnaanocpaaGreat.A
set_option linter.unusedVariables false
set_option linter.unusedSimpArgs false
set_option maxRecDepth 100000
set_option maxHeartbeats 4000000
theorem nodup_le {α : Type} [DecidableEq α] : ∀ {l m : List α}, l.Nodup → (∀ x ∈ l, x ∈ m) → l.length ≤ m.length
  | [], m, _, _ => Nat.zero_le _
  | x :: r, m, hn, hs => by
    have hx := hs x (by simp)
    rw [List.nodup_cons] at hn
    have := nodup_le (l := r) (m := m.erase x) hn.2 fun y hy => by
      have hne : y ≠ x := fun e => hn.1 (e ▸ hy)
      exact (List.mem_erase_of_ne hne).2 (hs y (by simp [hy]))
    have hl := List.length_erase_of_mem hx
    have : 0 < m.length := List.length_pos_of_mem hx
    simp only [List.length_cons]
    omega
section
variable {f : List Node}
theorem right_node (hr : rightP f) {a : Int} (ha : inR f a) : madeP (nodeAt f a) ∧ linksP f a (nodeAt f a) ∧ Good f a := by
  have h := hr.2 (a - 1) (by have := ha.1; omega) (by have := ha.2; omega)
  unfold okP at h
  rw [show a - 1 + 1 = a by omega] at h
  have e : nodeAt f a = atI f (a - 1) := by unfold nodeAt; rw [if_pos (show 1 ≤ a ∧ a ≤ (f.length : Int) from ha)]
  rw [e]
  exact h
theorem node_out {a : Int} (ha : ¬ inR f a) : nodeAt f a = n0 := by unfold nodeAt; rw [if_neg (show ¬ (1 ≤ a ∧ a ≤ (f.length : Int)) from ha)]
theorem kidsGo_mem {h doc : Int} : ∀ (l seen : List Int), kidsGo f h doc seen l = true → ∀ k ∈ l, inB f k = true ∧ (nodeAt f k).parent = h
  | [], _, _, k, hk => by cases hk
  | x :: r, seen, hg, k, hk => by
    rw [kidsGo] at hg
    split at hg
    · cases hg
    rename_i h1
    split at hg
    · cases hg
    split at hg
    · cases hg
    rename_i h3
    split at hg
    · cases hg
    rcases List.mem_cons.1 hk with rfl | hk
    · refine ⟨by simpa using h1, ?_⟩
      rw [dec_false, Decidable.not_not] at h3
      exact h3
    · exact kidsGo_mem r _ hg k hk
theorem famGo_mem {K : Int → Int} {d : Bool} : ∀ (l : List Int) (e t : Int), famGo K d l e t = true → ∀ k ∈ l, K k ≠ 12
  | [], _, _, _, k, hk => by cases hk
  | x :: r, e, t, hg, k, hk => by
    rw [famGo] at hg
    rcases List.mem_cons.1 hk with rfl | hk
    · intro h12
      rw [h12] at hg
      simp at hg
    · split at hg
      · exact famGo_mem r _ _ hg k hk
      split at hg
      · split at hg
        · cases hg
        · exact famGo_mem r _ _ hg k hk
      split at hg
      · split at hg
        · cases hg
        · exact famGo_mem r _ _ hg k hk
      split at hg
      · exact famGo_mem r _ _ hg k hk
      · cases hg
theorem right_kid (hr : rightP f) {a k : Int} (ha : inR f a) (hk : k ∈ (nodeAt f a).kids) : inR f k ∧ upN f k = a := by
  obtain ⟨_, hl, _⟩ := right_node hr ha
  have hkb := hl.2.2.2.2
  unfold kidsB at hkb
  simp only [Bool.and_eq_true] at hkb
  obtain ⟨h1, h2⟩ := kidsGo_mem _ _ hkb.1 k hk
  have h12 := famGo_mem _ _ _ hkb.2 k hk
  have hin : inR f k := by simpa [inB, inR] using h1
  refine ⟨hin, ?_⟩
  have e : nodeAt f k = atI f (k - 1) := by unfold nodeAt; rw [if_pos (show 1 ≤ k ∧ k ≤ (f.length : Int) from hin)]
  unfold upN aboveOf
  rw [← e, if_neg h12]
  exact h2
end
theorem kidsGo_nodup {f : List Node} {h doc : Int} : ∀ (l seen : List Int), kidsGo f h doc seen l = true → l.Nodup ∧ ∀ k ∈ l, k ∉ seen
  | [], _, _ => ⟨List.nodup_nil, fun a h => by cases h⟩
  | x :: r, seen, hg => by
    rw [kidsGo] at hg
    split at hg
    · cases hg
    split at hg
    · cases hg
    rename_i h2
    split at hg
    · cases hg
    split at hg
    · cases hg
    rw [dec_true] at h2
    obtain ⟨h3, h4⟩ := kidsGo_nodup r _ hg
    refine ⟨List.nodup_cons.2 ⟨fun hm => h4 x hm (by simp), h3⟩, fun k hk => ?_⟩
    rcases List.mem_cons.1 hk with rfl | hk
    · exact h2
    · exact fun hs => h4 k hk (by simp [hs])
section
variable {f : List Node}
theorem right_kidsB (hr : rightP f) {a : Int} (ha : inR f a) : kidsGo f a (nodeAt f a).doc [] (nodeAt f a).kids = true ∧ famB f (nodeAt f a) = true := by
  obtain ⟨_, hl, _⟩ := right_node hr ha
  have hkb := hl.2.2.2.2
  unfold kidsB at hkb
  simpa only [Bool.and_eq_true] using hkb
theorem right_few (hr : rightP f) (a : Int) : (nodeAt f a).kids.length ≤ 4096 := by
  by_cases ha : inR f a
  · have hn := (kidsGo_nodup _ _ (right_kidsB hr ha).1).1
    have := nodup_le hn (m := (List.range f.length).map fun j : Nat => (j : Int) + 1) fun x hx => by
      obtain ⟨h, _⟩ := right_kid hr ha hx
      have h1 := h.1
      have h2 := h.2
      exact List.mem_map.2 ⟨(x - 1).toNat, List.mem_range.2 (by omega), by omega⟩
    have h4 := hr.1
    simp at this
    omega
  · rw [node_out ha]
    simp [n0]
theorem node_in {a : Int} (ha : inR f a) : nodeAt f a = atI f (a - 1) := by unfold nodeAt; rw [if_pos (show 1 ≤ a ∧ a ≤ (f.length : Int) from ha)]
end
theorem atI_snoc {α : Type} [Inhabited α] (l : List α) (x : α) (i : Int) (h0 : 0 ≤ i) : atI (l ++ [x]) i = if i = l.length then x else atI l i := by
  unfold atI
  simp only [List.getD_eq_getElem?_getD]
  by_cases h : i = l.length
  · rw [if_pos h]
    subst h
    simp
  · rw [if_neg h]
    rcases Nat.lt_or_ge i.toNat l.length with h1 | h1
    · rw [List.getElem?_append_left h1]
    · rw [List.getElem?_eq_none (by simp; omega), List.getElem?_eq_none (by omega)]
theorem inB_R {f : List Node} {k : Int} : inB f k = true ↔ inR f k := by
  simp only [inB, decide_eq_true_eq]; rfl
theorem upN_node {f : List Node} {k : Int} (hk : inR f k) : upN f k = aboveOf (nodeAt f k) := by
  rw [node_in hk]; rfl
theorem node_snoc (f : List Node) (m : Node) (k : Int) : nodeAt (f ++ [m]) k = if k = f.length + 1 then m else nodeAt f k := by
  by_cases h : inR (f ++ [m]) k
  · have h1 := h.1
    have h2 := h.2
    simp at h2
    rw [node_in h, atI_snoc _ _ _ (by omega)]
    by_cases e : k = f.length + 1
    · rw [if_pos (by omega), if_pos e]
    · rw [if_neg (by omega), if_neg e, node_in (f := f) ⟨h1, by omega⟩]
  · rw [node_out h]
    have e : k ≠ f.length + 1 := fun e => h ⟨by omega, by simp; omega⟩
    rw [if_neg e, node_out]
    exact fun h2 => h ⟨h2.1, by have := h2.2; simp; omega⟩
end Go.Proofs.YtmhejcnaanocpaaGreat.A
