/- The abstract walk, part Zh: a list of the call's own, the last block, is given up: it reads as a list that stays. -/
import Derived.Test.YtmhejcnaanocpaaGreatXRSGrpAV
import Derived.Test.YtmhejcnaanocpaaGreatXRSGrpAW
import Derived.Test.YtmhejcnaanocpaaGreatXRSGrpAR
namespace Go.Proofs.YtmhejcnaanocpaaGreat.A
open Go.RowKit
set_option linter.unusedVariables false
set_option linter.unusedSimpArgs false
section
variable {C : Cx} {s : St} {T : List (Nat × TI)} {l : List Oper} {Q : Exit → St → Prop}
def frz0 (k n : Nat) (rows : List (List IV)) : AV → AV
  | .os id m => bif Nat.beq id k && Nat.beq m n then .imm (.sl rows) else .os id m
  | v => v
def frz (k n : Nat) (rows : List (List IV)) : AV → AV
  | .agg l => .agg (l.map (frz0 k n rows))
  | .tup l => .tup (l.map (frz0 k n rows))
  | v => frz0 k n rows v
theorem qeg (k n : Nat) (rows : List (List IV)) (v : AV) : (v = .os k n ∧ frz0 k n rows v = .imm (.sl rows)) ∨ frz0 k n rows v = v := by
  cases v with
  | os id m =>
    simp only [frz0]
    cases hc : (Nat.beq id k && Nat.beq m n) with
    | true =>
      rw [Bool.and_eq_true] at hc
      have e1 := Nat.eq_of_beq_eq_true hc.1
      have e2 := Nat.eq_of_beq_eq_true hc.2
      exact .inl ⟨by rw [e1, e2], rfl⟩
    | false => exact .inr rfl
  | _ => exact .inr rfl
theorem qjd (k n : Nat) (rows : List (List IV)) (v : AV) : (∃ l, v = .agg l ∧ frz k n rows v = .agg (l.map (frz0 k n rows))) ∨ (∃ l, v = .tup l ∧ frz k n rows v = .tup (l.map (frz0 k n rows))) ∨ frz k n rows v = frz0 k n rows v := by
  cases v with
  | agg l => exact .inl ⟨l, rfl, rfl⟩
  | tup l => exact .inr (.inl ⟨l, rfl, rfl⟩)
  | _ => exact .inr (.inr rfl)
def EnvG (e : List (Nat × AV)) (g : AV → AV) : List (Nat × AV) → Prop
  | [] => True
  | (t, v) :: r => (∃ u, get e t = some u ∧ g u = v) ∧ EnvG e g r
theorem getG {e : List (Nat × AV)} {g : AV → AV} : ∀ {e1 : List (Nat × AV)}, EnvG e g e1 → ∀ {t : Nat} {v : AV}, get e1 t = some v → (∃ u, get e t = some u ∧ g u = v) ∧ ∃ p ∈ e1, p.2 = v
  | [], _, t, v, h => by cases h
  | (d, u) :: r, hle, t, v, h => by
    simp only [get] at h
    split at h
    · rename_i e
      have e' := Nat.eq_of_beq_eq_true e
      obtain rfl := Option.some.inj h
      subst e'
      exact ⟨hle.1, _, List.mem_cons_self, rfl⟩
    · obtain ⟨h1, p, h2, h3⟩ := getG hle.2 h
      exact ⟨h1, p, List.mem_cons_of_mem _ h2, h3⟩
theorem Le.giveE (k : Nat) {env env1 : List (Nat × AV)} {hp : List Blk} {b : Blk} {rows : List (List IV)} (hb : nth hp k = some b) (hr : b.rows = rows.map (·.map .imm)) (henv : EnvG env (frz k (len b.rows) rows) env1) (hsc : env1.all (fun p => p.2.sc1 k) = true) (hblk : (hp.take k).all (fun b => b.rows.all fun r => r.all (AV.sc1 k)) = true) (hl : C.hp0.length ≤ k) :
    Le C ⟨env, hp⟩ ⟨env1, hp.take k⟩ := by
  intro γ κ a W hC
  refine ⟨γ, κ, ?_⟩
  have hlen : (hp.take k).length ≤ hp.length := by simp; omega
  have hget : ∀ id, id < k → (hp.take k)[id]? = hp[id]? := fun id hi => List.getElem?_take_of_lt hi
  have hN : ∀ b, nset C.X γ (hp.take k).length b → nset C.X γ hp.length b := by
    rintro b (h | ⟨i, hi, hg⟩)
    · exact .inl h
    · exact .inr ⟨i, by omega, hg⟩
  obtain ⟨M, hM⟩ : ∃ M, M = St.mm ⟨env, hp⟩ C γ κ W := ⟨_, rfl⟩
  obtain ⟨M', hM'⟩ : ∃ M', M' = St.mm ⟨env1, hp.take k⟩ C γ κ W := ⟨_, rfl⟩
  have hkeep : ∀ {v x}, RepA M v x → v.sc k = true → RepA M' v x := fun h hs => by subst hM hM'; exact qf1 (M := St.mm ⟨env, hp⟩ C γ κ W) (M' := St.mm ⟨env1, hp.take k⟩ C γ κ W) rfl hN rfl rfl hget h hs
  have hkeep1 : ∀ {v x}, RepA M v x → v.sc1 k = true → RepA M' v x := fun h hs => by subst hM hM'; exact qep (M := St.mm ⟨env, hp⟩ C γ κ W) (M' := St.mm ⟨env1, hp.take k⟩ C γ κ W) rfl hN rfl rfl hget h hs
  have hkeep0 : ∀ {v x}, RepA M v x → v.sc0 k = true → RepA M' v x := fun h hs => by subst hM hM'; exact qgv (M := St.mm ⟨env, hp⟩ C γ κ W) (M' := St.mm ⟨env1, hp.take k⟩ C γ κ W) rfl hN rfl rfl hget h hs
  rw [List.all_eq_true] at hsc hblk
  have hos : ∀ x, RepA M (.os k b.rows.length) x → RepA M' (.imm (.sl rows)) x := by
    intro x h4
    subst hM hM'
    rw [qm] at hb
    have hB := hC.blk k b hb
    have e2 := h4.os_val hb rfl
    subst e2
    rcases hB.mem with ⟨h1, h2, h3'⟩ | ⟨g, ys, sp, h1, h2, h3', h4'⟩
    · have : rows = [] := by
        rw [h2] at hr
        exact List.map_eq_nil_iff.1 hr.symm
      subst this
      rw [h2]
      exact .imm _ _ (.nil _ _)
    · by_cases hne : rows = []
      · subst hne
        have hn0 : b.rows.length = 0 := by rw [hr]; rfl
        rw [hn0]
        exact .imm _ _ (.nil _ _)
      · rw [h1]
        have hid : k < hp.length := (List.getElem?_eq_some_iff.1 hb).1
        have hrl : ∀ r ∈ rows, r.length = b.sz := by
          intro r hr'
          have := hB.rows (r.map .imm) (by rw [hr]; exact List.mem_map.2 ⟨r, hr', rfl⟩)
          simpa using this
        refine .imm _ _ (.sl rows ⟨g, 0, none⟩ b.rows.length _ b.sz ys hne hB.pos (by rw [hr, List.length_map]) hB.cap ?_ hrl ?_ ?_)
        · rintro (hx | ⟨i, hi, hg⟩)
          · exact (hC.own k g hid h1).1 hx
          · have hi' : i < k := by simp at hi; omega
            have := hC.inj i k g (Nat.lt_trans hi' hid) hid hg h1
            omega
        · intro j y hj
          have e : (⟨g, 0, none⟩ : Addr).add j = ⟨g, 0 + j, none⟩ := by unfold Addr.add; split <;> simp_all
          have h2' : W.heap[g]? = some (.cells (ys ++ sp).toArray b.ty (0, 0)) := h2
          show W.cell? _ = _
          rw [e, q7 h2']
          simp only [List.getElem?_toArray, Nat.zero_add]
          rw [List.getElem?_append_left (List.getElem?_eq_some_iff.1 hj).1]; exact hj
        · rw [hr, ← List.map_flatten] at h4'
          have key : ∀ {l : List IV} {ys : List Value}, All2 (RepA (St.mm ⟨env, hp⟩ C γ κ W)) (l.map .imm) ys → All2 (RepI W (nset C.X γ (hp.take k).length)) l ys := by
            intro l
            induction l with
            | nil => intro ys h; cases h; exact .nil
            | cons v l ih =>
              intro ys h
              cases h with
              | cons h1 h2 => cases h1 with
                | imm _ _ h1 => exact .cons (h1.keep fun b hb _ => ⟨rfl, fun hx => hb (hN b hx)⟩) (ih h2)
          exact key h4'
  have hf0 : ∀ {v x}, RepA M v x → (frz0 k (len b.rows) rows v).sc0 k = true → RepA M' (frz0 k (len b.rows) rows v) x := by
    intro v x h hs
    rcases qeg k (len b.rows) rows v with ⟨e1, e2⟩ | e
    · rw [e2]
      subst e1
      rw [qq] at h
      exact hos x h
    · rw [e] at hs ⊢
      exact hkeep0 h hs
  have hl0 : ∀ {l : List AV} {xs : List Value}, All2 (RepA M) l xs → (l.map (frz0 k (len b.rows) rows)).all (AV.sc0 k) = true → All2 (RepA M') (l.map (frz0 k (len b.rows) rows)) xs := by
    intro l
    induction l with
    | nil => intro xs h _; cases h; exact .nil
    | cons v l ih =>
      intro xs h hs
      cases h with
      | cons h1 h2 =>
        simp only [List.map_cons, List.all_cons, Bool.and_eq_true] at hs
        exact .cons (hf0 h1 hs.1) (ih h2 hs.2)
  have hall : ∀ {v x}, RepA M v x → (frz k (len b.rows) rows v).sc1 k = true → RepA M' (frz k (len b.rows) rows v) x := by
    intro v x h hs
    rcases qjd k (len b.rows) rows v with ⟨l, e1, e2⟩ | ⟨l, e1, e2⟩ | e
    · rw [e2] at hs ⊢
      subst e1
      cases h with
      | agg _ xs h => exact .agg _ xs (hl0 h hs)
    · rw [e2] at hs ⊢
      subst e1
      cases h with
      | tup _ xs h => exact .tup _ xs (hl0 h hs)
    · rw [e] at hs ⊢
      rcases qeg k (len b.rows) rows v with ⟨e1, e2⟩ | e
      · rw [e2]
        subst e1
        rw [qq] at h
        exact hos x h
      · rw [e] at hs ⊢
        exact hkeep1 h hs
  refine ⟨hC.size, hC.defers, ?_, ?_, fun i j g hi hj => hC.inj i j g (Nat.lt_of_lt_of_le hi hlen) (Nat.lt_of_lt_of_le hj hlen), fun i g hi => hC.own i g (Nat.lt_of_lt_of_le hi hlen), hC.xlt, hC.old, hC.hos, hC.htape, hC.hout, hC.hsize, ?_⟩
  · intro t' v h
    obtain ⟨⟨u, hu, hv⟩, p, h1, h2⟩ := getG henv h
    obtain ⟨x, h3, h4⟩ := hC.env t' u hu
    refine ⟨x, h3, ?_⟩
    have := hsc p h1
    rw [h2, ← hv] at this
    rw [← hv, ← hM']
    exact hall (by rw [hM]; exact h4) this
  · intro id b' hb'
    have hid : id < k := by
      have := (List.getElem?_eq_some_iff.1 (show (hp.take k)[id]? = some b' from hb')).1
      simp at this; omega
    have hb0 : hp[id]? = some b' := by rw [← hget id hid]; exact hb'
    have ho := hC.blk id b' hb0
    have hs := hblk b' (List.mem_of_getElem? hb')
    refine ⟨ho.pos, ho.rows, ho.cell, ho.cap, ho.capm, ?_⟩
    rcases ho.mem with h1 | ⟨g', ys', sp', h1, h2, h3, h4⟩
    · exact .inl h1
    · refine .inr ⟨g', ys', sp', h1, h2, h3, h4.mono_mem fun v x hm _ h => ?_⟩
      rw [← hM']
      refine hkeep1 (by rw [hM]; exact h) ?_
      obtain ⟨r, hr, hv⟩ := List.mem_flatten.1 hm
      rw [List.all_eq_true] at hs
      have := hs r hr
      rw [List.all_eq_true] at this
      exact this v hv
  · intro i b0 hb0
    obtain ⟨b, h1, h2⟩ := hC.lent i b0 hb0
    have : i < C.hp0.length := (List.getElem?_eq_some_iff.1 hb0).1
    exact ⟨b, by show (hp.take k)[i]? = _; rw [hget i (by omega)]; exact h1, h2⟩
theorem yb1 (k : Nat) {env1 env : List (Nat × AV)} {hp : List Blk} {b : Blk} (rows : List (List IV)) {h1 : List Blk} (hb : nth hp k = some b) (hr : b.rows = rows.map (·.map .imm)) (henv : EnvG env (frz k (len b.rows) rows) env1) (hsc : env1.all (fun p => p.2.sc1 k) = true) (e1 : hp.take k = h1) (hblk : h1.all (fun b => b.rows.all fun r => r.all (AV.sc1 k)) = true) (hl : C.hp0.length ≤ k) {rest : List Oper}
    (h : AL C l Q rest ⟨env1, h1⟩) : AL C l Q rest ⟨env, hp⟩ := by
  subst e1
  exact AL.weak (Le.giveE k hb hr henv hsc hblk hl) h
end
set_option maxRecDepth 100000
set_option maxHeartbeats 4000000
def restL (f : List Node) (h off : Int) : List Int := subP (nodeAt f h).data off 4294967295
def restN (f : List Node) (h off : Int) : Node := { n0 with kind := 3, doc := (nodeAt f h).doc, data := restL f h off }
def treeCh (parent made prev next : Int) : Change := { c0 with kind := 10, parent := parent, added := [made], prev := prev, next := next }
def splitCh (node other off : Int) : Change := { c0 with kind := 8, node := node, other := other, offset := off }
def rawT (doc : Int) (d : List Int) : AV := .agg [kav 3, sav es, sav es, sav es, sav es, sav es, .imm (.sl (d.map u16)), .nils, iav 0, .nils, iav doc, iav 0, iav 0, kav 0, bav false, bav false]
def rawTr (parent made prev next : Int) : AV := .agg [kav 10, iav 0, iav parent, iav 0, iav 0, iav 0, iav 0, iav 0, .nils, sav es, sav es, sav es, sav es, sav es, bav false, bav false, kav 0, sav es, sav es, sav es, sav es, sav es, .nils, .nils, iav 0, .nils, iav 0, iav 0, iav 0, kav 0, bav false, bav false, .imm (.sl ([made].map i64)), .nils, iav prev, iav next]
def rawSp (node other off : Int) : AV := .agg [kav 8, iav node, iav 0, iav 0, iav other, iav 0, iav off, iav 0, .nils, sav es, sav es, sav es, sav es, sav es, bav false, bav false, kav 0, sav es, sav es, sav es, sav es, sav es, .nils, .nils, iav 0, .nils, iav 0, iav 0, iav 0, kav 0, bav false, bav false, .nils, .nils, iav 0, iav 0]
theorem qje (f : List Node) (h : Int) : 0 ≤ placeP f h := by unfold placeP; omega
theorem qjf (f : List Node) (h : Int) (hf : Fit f) : placeP f h ≤ 1000000000 := by
  have := qmd (nodeAt f (nodeAt f h).parent).kids h
  have := (hf.at (nodeAt f h).parent).kids
  unfold placeP; omega
theorem qjg (l : List Int) (a b : Int) : (subP l a b).length ≤ l.length := by unfold subP; simp only [List.length_drop, List.length_take]; omega
structure SplitS (f : List Node) (h off : Int) (p1 p2 p3 p4 q : PS) (b1 : Bool) : Prop where
  made : DoR (pen0 f) (mkCh (f.length + 1) (restN f h off)) p1 b1
  lone : b1 = false ∨ (nodeAt f h).parent = 0 → p4 = p1
  ins : b1 = true → (nodeAt f h).parent ≠ 0 → ∃ b, DoR p1 (inCh (f.length + 1) (nodeAt f h).parent (placeP f h + 1)) p2 b
  tree : b1 = true → (nodeAt f h).parent ≠ 0 → ∃ b, DoR p2 (treeCh (nodeAt f h).parent (f.length + 1) h (besideP f h 1)) p3 b
  spl : b1 = true → (nodeAt f h).parent ≠ 0 → ∃ b, DoR p3 (splitCh h (f.length + 1) off) p4 b
  put : ∃ b, PutR h off (restL f h off).length [] p4 q b
theorem qjh (f : List Node) (h off : Int) (hf : Fit f) (he : cfP f h true ≠ 0) : PureC Tryz.prog 12 [fav f, iav h, u32 off] (.tup [fav [], iav 0, .imm (.sl []), iav (cfP f h true)]) := by
  have c1 := q8 f h true hf
  obtain ⟨w, hw⟩ : ∃ w, w = cfP f h true := ⟨_, rfl⟩
  rw [← hw] at c1 he ⊢
  refine yp tabs Tryz.func12 104 [.cell 6 24, .tmp 7, .tmp 8, .tmp 9] rfl rfl rfl rfl rfl ?_; intro w0 X
  (repeat' (first | ((with_reducible show AL _ _ _ _ _); first | (refine yf tabs rfl ?_; try dsimp only [len, List.nil_append, List.cons_append]) | refine AL.op rfl (yd rfl rfl rfl rfl c1 rfl) ?_ | refine yn ?_ | (refine yq rfl rfl rfl (fun hc => ?_) (fun hc => ?_) <;> (fail_if_success (exact absurd hc (by decide))) <;> (try simp only [hsx] at hc) <;> (try first | omega | contradiction | (simp [qa] at hc; done))) | (refine AL.op rfl (yj rfl rfl rfl rfl rfl (by omega) (by omega)) ?_)) | ((with_reducible show DQ _ _ _ _ _ _); first | refine DQ.stepc (LS.store (i := ti24) (v := .agg [.nils]) (ty := 24) (sz := 1) (rows := [ti24.zero]) (r := ti24.zero) tabs rfl rfl rfl rfl rfl rfl rfl rfl rfl rfl (Nat.le_of_ble_eq_true rfl) rfl) rfl rfl rfl rfl rfl ?_ | refine DQ.stepc (LS.val tabs rfl rfl rfl) rfl rfl rfl rfl rfl ?_ | refine DQ.stepc (yu rfl rfl) rfl rfl rfl rfl rfl ?_ | refine DQ.nilM (by kernel_rfl) ?_ | refine DQ.stepc (yad rfl rfl rfl rfl rfl rfl (by omega) (by omega)) rfl rfl rfl rfl rfl ?_ | (refine DQ.gsplitE rfl rfl rfl (fun hc => ?_) (fun hc => ?_) <;> (fail_if_success (exact absurd hc (by decide))) <;> (try simp only [hsx] at hc) <;> (try first | omega | contradiction | (simp [qa] at hc; done)))) | refine ym ?_ | refine ya ?_ | refine yb ?_ | refine yg ?_ | refine yi rfl ?_ | refine yh rfl ?_ | (refine yk rfl (fun hc => ?_) (fun hc => ?_) <;> (try simp only [hsx] at hc) <;> (try first | omega | contradiction | (simp [qa] at hc; done))) | refine yo ?_ | refine yc ?_ | refine yr mixed (by kernel_rfl) ?_))
  all_goals first
    | (exfalso; exact he hc)
    | exact RQ.fin rfl rfl rfl
theorem qhz (f : List Node) (h off : Int) (hf : Fit f) (he : cfP f h true = 0) (h0 : 0 ≤ off) (h1 : off < 4294967296) (ho : (nodeAt f h).data.length < off) : PureC Tryz.prog 12 [fav f, iav h, u32 off] (.tup [fav [], iav 0, .imm (.sl []), iav 14]) := by
  have c1 := q8 f h true hf
  rw [he] at c1
  have c2 := qw f h hf.len
  have c3 := qob (nodeAt f h).data off 4294967295 h0 h1 (by omega) (by omega) (hf.at h).data
  rw [if_neg (by omega), if_neg (by omega)] at c3
  refine yp tabs Tryz.func12 104 [.cell 6 24, .tmp 7, .tmp 8, .tmp 9] rfl rfl rfl rfl rfl ?_; intro w0 X
  (repeat' (first | ((with_reducible show AL _ _ _ _ _); first | (refine yf tabs rfl ?_; try dsimp only [len, List.nil_append, List.cons_append]) | refine AL.op rfl (yd rfl rfl rfl rfl c1 rfl) ?_ | refine AL.op rfl (yd rfl rfl rfl rfl c2 rfl) ?_ | refine AL.op rfl (yd rfl rfl rfl rfl c3 rfl) ?_ | refine yn ?_ | (refine yq rfl rfl rfl (fun hc => ?_) (fun hc => ?_) <;> (fail_if_success (exact absurd hc (by decide))) <;> (try simp only [hsx] at hc) <;> (try first | omega | contradiction | (simp [qa] at hc; done))) | (refine AL.op rfl (yj rfl rfl rfl rfl rfl (by omega) (by omega)) ?_)) | ((with_reducible show DQ _ _ _ _ _ _); first | refine DQ.stepc (LS.store (i := ti24) (v := .agg [.nils]) (ty := 24) (sz := 1) (rows := [ti24.zero]) (r := ti24.zero) tabs rfl rfl rfl rfl rfl rfl rfl rfl rfl rfl (Nat.le_of_ble_eq_true rfl) rfl) rfl rfl rfl rfl rfl ?_ | refine DQ.stepc (LS.store (i := ti44) (v := (nodeAt f h).av) (ty := 44) (sz := 16) (rows := [ti44.zero]) (r := ti44.zero) tabs rfl rfl rfl rfl rfl rfl rfl rfl rfl rfl (Nat.le_of_ble_eq_true rfl) rfl) rfl rfl rfl rfl rfl ?_ | refine DQ.stepc (LS.val tabs rfl rfl rfl) rfl rfl rfl rfl rfl ?_ | refine DQ.stepc (yu rfl rfl) rfl rfl rfl rfl rfl ?_ | refine DQ.nilM (by kernel_rfl) ?_ | refine DQ.stepc (yad rfl rfl rfl rfl rfl rfl (by omega) (by omega)) rfl rfl rfl rfl rfl ?_ | (refine DQ.gsplitE rfl rfl rfl (fun hc => ?_) (fun hc => ?_) <;> (fail_if_success (exact absurd hc (by decide))) <;> (try simp only [hsx] at hc) <;> (try first | omega | contradiction | (simp [qa] at hc; done)))) | refine ym ?_ | refine ya ?_ | refine yb ?_ | refine yg ?_ | refine yi rfl ?_ | refine yh rfl ?_ | (refine yk rfl (fun hc => ?_) (fun hc => ?_) <;> (try simp only [hsx] at hc) <;> (try first | omega | contradiction | (simp [qa] at hc; done))) | refine yo ?_ | refine yc ?_ | refine yr mixed (by kernel_rfl) ?_))
  all_goals first
    | exact RQ.fin rfl rfl rfl
noncomputable def ansS (q : PS) (made : Int) : AV := if q.why = 0 then .tup [fav q.F, iav made, .imm (.sl (q.L.map Change.iv)), iav 0] else .tup [fav [], iav 0, .imm (.sl []), iav q.why]
theorem qnh (f : List Node) (h off : Int) (p1 p2 p3 p4 q : PS) (b1 : Bool) (hf : Fit f) (he : cfP f h true = 0) (h0 : 0 ≤ off) (h1 : off < 4294967296) (ho : off ≤ (nodeAt f h).data.length) (S : SplitS f h off p1 p2 p3 p4 q b1)
    (hf4 : Fit p4.F) (hL1 : p1.L.length ≤ 1000000) (hL2 : p2.L.length ≤ 1000000) (hL3 : p3.L.length ≤ 1000000) (hL4 : p4.L.length ≤ 1000000) (hL : q.L.length ≤ 1000000) (hL0 : q.why = 0 → q.L ≠ []) (hfc : ∀ i : Int, 0 ≤ i → i < q.L.length → FitC (atI q.L i)) :
    PureC Tryz.prog 12 [fav f, iav h, u32 off] (ansS q (if b1 = true then f.length + 1 else 0)) := by
  have hl := hf.len
  have c1 := q8 f h true hf
  rw [he] at c1
  have c2 := qw f h hl
  have hdl := (hf.at h).data
  have c3 := qob (nodeAt f h).data off 4294967295 h0 h1 (by omega) (by omega) hdl
  rw [if_pos ho, if_pos ho] at c3
  have hrl : (restL f h off).length ≤ 1000000000 := Nat.le_trans (qjg _ _ _) hdl
  rw [show subP (nodeAt f h).data off 4294967295 = restL f h off from rfl] at c3
  have c4 := GenC.cv (ab := [.ptr 0 1 0 0, rawT (nodeAt f h).doc (restL f h off)]) (qn3 (pen0 f) p1 (restN f h off) b1 hl (by simp [pen0]) S.made) rfl
  obtain ⟨x, hx⟩ : ∃ x : Int, x = if b1 = true then (f.length : Int) + 1 else 0 := ⟨_, rfl⟩
  have hx' : mkX (pen0 f) b1 = x := by rw [hx]; cases b1 <;> rfl
  rw [hx'] at c4
  rw [← hx]
  have c5 := qc9 f h 1 hf (by omega) (by omega)
  have c6 := qnf f h hf
  have hp0 := qje f h
  have hp1 := qjf f h hf
  have hxb : x ≠ 0 → b1 = true := by rw [hx]; cases b1 <;> simp
  have hxe : x ≠ 0 → x = f.length + 1 := by intro h; rw [hx, if_pos (hxb h)]
  obtain ⟨b5, H5⟩ := S.put
  have c7 := GenC.cv (ab := [.ptr 0 1 0 0, iav h, u32 off, u32 (restL f h off).length, .nils]) (qcq p4 q h off (restL f h off).length [] b5 hf4 hL4 h0 h1 (by omega) (by omega) (by simp) H5) rfl
  unfold penB at c7
  have hmr : (List.map u16 (restL f h off)).length = (restL f h off).length := List.length_map _
  rw [← hmr] at c7
  obtain ⟨n, hn⟩ : ∃ n, n = nodeAt f h := ⟨_, rfl⟩
  refine yp tabs Tryz.func12 104 [.cell 6 24, .tmp 7, .tmp 8, .tmp 9] rfl rfl rfl rfl rfl ?_; intro w0 X
  refine AW.reserve 112 3 rfl ?_
  (repeat' (first | ((with_reducible show AL _ _ _ _ _); first | (refine yf tabs rfl ?_; try dsimp only [len, List.nil_append, List.cons_append]) | refine AL.op rfl (yd rfl rfl rfl rfl c1 rfl) ?_ | refine AL.op rfl (yd rfl rfl rfl rfl c2 rfl) ?_ | refine AL.op rfl (yd rfl rfl rfl rfl c3 rfl) ?_ | refine yz [0] 4 rfl rfl rfl rfl rfl (caps := []) rfl (on_c f) rfl rfl rfl rfl rfl rfl rfl rfl (hpA := [⟨112, 3, [[.imm (.sl (f.map Node.iv)), .os 5 0, iav 0]]⟩, ⟨24, 1, [[.imm (.sl (f.map Node.iv))]]⟩, ⟨58, 36, []⟩]) rfl (r' := .ptr 0 1 0 0) rfl rfl ?_; try dsimp only [setAll, List.drop_succ_cons, List.drop_zero, List.drop_nil, List.set_cons_succ, List.set_cons_zero, List.cons_append, List.nil_append, List.append_nil, len, Nat.reduceAdd] | refine yz [0, 5] 6 rfl rfl rfl rfl rfl (caps := []) rfl c4 rfl (by simp only [List.map_cons, List.map_nil, renC]; rfl) rfl rfl (by simp only [qax]; exact ⟨⟨rfl, rfl, rfl⟩, qd _ _⟩) rfl (by simp only [qax]; exact ⟨⟨rfl, rfl, rfl⟩, qd _ _⟩) rfl (hpA := [⟨112, 3, [[.imm (.sl ((p1).F.map Node.iv)), .os 5 (p1).L.length, iav (p1).why]]⟩, ⟨58, 36, (p1).L.map rowC⟩]) (by simp only [List.map_cons, List.map_nil, renC]; rfl) (r' := iav x) rfl rfl ?_; try dsimp only [setAll, List.drop_succ_cons, List.drop_zero, List.drop_nil, List.set_cons_succ, List.set_cons_zero, List.cons_append, List.nil_append, List.append_nil, len, Nat.reduceAdd] | refine yn ?_ | (refine yq rfl rfl rfl (fun hc => ?_) (fun hc => ?_) <;> (fail_if_success (exact absurd hc (by decide))) <;> (try simp only [hsx] at hc) <;> (try first | omega | contradiction | (simp [qa] at hc; done))) | (refine AL.op rfl (yj rfl rfl rfl rfl rfl (by omega) (by omega)) ?_)) | ((with_reducible show DQ _ _ _ _ _ _); first | refine DQ.stepc (LS.store (i := ti44) (v := (nodeAt f h).av) (ty := 44) (sz := 16) (rows := [ti44.zero]) (r := ti44.zero) tabs rfl rfl rfl rfl rfl rfl rfl rfl rfl rfl (Nat.le_of_ble_eq_true rfl) rfl) rfl rfl rfl rfl rfl ?_ | refine DQ.stepc (LS.val tabs rfl rfl rfl) rfl rfl rfl rfl rfl ?_ | refine DQ.stepc (yu rfl rfl) rfl rfl rfl rfl rfl ?_ | refine DQ.nilM (by kernel_rfl) ?_ | refine DQ.stepc (yad rfl rfl rfl rfl rfl rfl (by omega) (by omega)) rfl rfl rfl rfl rfl ?_ | (refine DQ.gsplitE rfl rfl rfl (fun hc => ?_) (fun hc => ?_) <;> (fail_if_success (exact absurd hc (by decide))) <;> (try simp only [hsx] at hc) <;> (try first | omega | contradiction | (simp [qa] at hc; done)))) | refine ybn (t := 54) True ⟨[(1, iav h), (2, u32 off), (6, .ptr 2 1 0 0), (12, .imm (.sl ((restL f h off).map u16))), (14, .ptr 0 1 0 0), (15, iav x)], [⟨112, 3, [[.imm (.sl ((p4).F.map Node.iv)), .os 5 (p4).L.length, iav (p4).why]]⟩, ⟨24, 1, [[.imm (.sl (f.map Node.iv))]]⟩, ⟨24, 1, [[.nils]]⟩, ⟨44, 16, [rowS (nodeAt f h)]⟩, ⟨24, 1, [[.imm (.sl (f.map Node.iv))]]⟩, ⟨58, 36, (p4).L.map rowC⟩]⟩ ?_ (fun _ => ?_) | refine ym ?_ | refine ya ?_ | refine yb ?_ | refine yg ?_ | refine yi rfl ?_ | refine yh rfl ?_ | (refine yk rfl (fun hc => ?_) (fun hc => ?_) <;> (try simp only [hsx] at hc) <;> (try first | omega | contradiction | (simp [qa] at hc; done))) | refine yo ?_ | refine yc ?_ | refine yr mixed (by kernel_rfl) ?_))
  · have hb := hxb (by assumption)
    have hx1 := hxe (by assumption)
    obtain ⟨b2, H2⟩ := S.ins hb (by assumption)
    obtain ⟨b3, H3⟩ := S.tree hb (by assumption)
    obtain ⟨b4, H4⟩ := S.spl hb (by assumption)
    rw [← hx1] at H2 H3 H4
    have d2 := GenC.cv (ab := [.ptr 0 1 0 0, rawIn x (nodeAt f h).parent (placeP f h + 1)]) (do_c p1 p2 _ b2 hL1 H2) rfl
    have d3 := GenC.cv (ab := [.ptr 0 1 0 0, rawTr (nodeAt f h).parent x h (besideP f h 1)]) (do_c p2 p3 _ b3 hL2 H3) rfl
    have d4 := GenC.cv (ab := [.ptr 0 1 0 0, rawSp h x off]) (do_c p3 p4 _ b4 hL3 H4) rfl
    (repeat' (first | ((with_reducible show AL _ _ _ _ _); first | refine yb1 6 (h1 := [⟨112, 3, [[.imm (.sl ((p2).F.map Node.iv)), .os 5 (p2).L.length, iav (p2).why]]⟩, ⟨24, 1, [[.imm (.sl (f.map Node.iv))]]⟩, ⟨24, 1, [[.nils]]⟩, ⟨44, 16, [rowS (nodeAt f h)]⟩, ⟨24, 1, [[.imm (.sl (f.map Node.iv))]]⟩, ⟨58, 36, (p2).L.map rowC⟩]) (env1 := [(68, .ptr 0 1 0 0), (75, rawTr (nodeAt f h).parent x h (besideP f h 1)), (1, iav h), (2, u32 off), (6, .ptr 2 1 0 0), (12, .imm (.sl ((restL f h off).map u16))), (14, .ptr 0 1 0 0), (15, iav x)]) ([x].map i64) rfl rfl ⟨⟨_, rfl, rfl⟩, ⟨_, rfl, rfl⟩, ⟨_, rfl, rfl⟩, ⟨_, rfl, rfl⟩, ⟨_, rfl, rfl⟩, ⟨_, rfl, rfl⟩, ⟨_, rfl, rfl⟩, ⟨_, rfl, rfl⟩, trivial⟩ rfl rfl (by simp only [qax]; exact ⟨⟨rfl, rfl, rfl⟩, rfl, rfl, qba (nodeAt f h) _, rfl, qd _ _⟩) (Nat.zero_le _) ?_ | refine AL.op rfl (ybg tabs rfl rfl rfl rfl rfl rfl (by omega) (by omega)) ?_ | (refine yf tabs rfl ?_; try dsimp only [len, List.nil_append, List.cons_append]) | refine AL.op rfl (yd rfl rfl rfl rfl c5 rfl) ?_ | refine yz [0, 5] 6 rfl rfl rfl rfl rfl (caps := []) rfl d3 rfl (by simp only [List.map_cons, List.map_nil, renC]; rfl) rfl rfl (by simp only [qax]; exact ⟨⟨rfl, rfl, rfl⟩, qd _ _⟩) rfl (by simp only [qax]; exact ⟨⟨rfl, rfl, rfl⟩, qd _ _⟩) rfl (hpA := [⟨112, 3, [[.imm (.sl ((p3).F.map Node.iv)), .os 5 (p3).L.length, iav (p3).why]]⟩, ⟨58, 36, (p3).L.map rowC⟩]) (by simp only [List.map_cons, List.map_nil, renC]; rfl) (r' := bav b3) rfl rfl ?_; try dsimp only [setAll, List.drop_succ_cons, List.drop_zero, List.drop_nil, List.set_cons_succ, List.set_cons_zero, List.cons_append, List.nil_append, List.append_nil, len, Nat.reduceAdd] | refine yz [0, 5] 6 rfl rfl rfl rfl rfl (caps := []) rfl d4 rfl (by simp only [List.map_cons, List.map_nil, renC]; rfl) rfl rfl (by simp only [qax]; exact ⟨⟨rfl, rfl, rfl⟩, qd _ _⟩) rfl (by simp only [qax]; exact ⟨⟨rfl, rfl, rfl⟩, qd _ _⟩) rfl (hpA := [⟨112, 3, [[.imm (.sl ((p4).F.map Node.iv)), .os 5 (p4).L.length, iav (p4).why]]⟩, ⟨58, 36, (p4).L.map rowC⟩]) (by simp only [List.map_cons, List.map_nil, renC]; rfl) (r' := bav b4) rfl rfl ?_; try dsimp only [setAll, List.drop_succ_cons, List.drop_zero, List.drop_nil, List.set_cons_succ, List.set_cons_zero, List.cons_append, List.nil_append, List.append_nil, len, Nat.reduceAdd] | refine yn ?_ | (refine yq rfl rfl rfl (fun hc => ?_) (fun hc => ?_) <;> (fail_if_success (exact absurd hc (by decide))) <;> (try simp only [hsx] at hc) <;> (try first | omega | contradiction | (simp [qa] at hc; done))) | (refine AL.op rfl (yj rfl rfl rfl rfl rfl (by omega) (by omega)) ?_)) | ((with_reducible show DQ _ _ _ _ _ _); first | refine DQ.stepc (yai rfl rfl rfl rfl rfl c6 rfl) rfl rfl rfl rfl rfl ?_ | refine DQ.stepc (LS.val tabs rfl rfl rfl) rfl rfl rfl rfl rfl ?_ | refine DQ.stepc (yu rfl rfl) rfl rfl rfl rfl rfl ?_ | refine DQ.nilM (by kernel_rfl) ?_ | refine DQ.stepc (yad rfl rfl rfl rfl rfl rfl (by omega) (by omega)) rfl rfl rfl rfl rfl ?_ | (refine DQ.gsplitE rfl rfl rfl (fun hc => ?_) (fun hc => ?_) <;> (fail_if_success (exact absurd hc (by decide))) <;> (try simp only [hsx] at hc) <;> (try first | omega | contradiction | (simp [qa] at hc; done)))) | ((with_reducible show M2.DQ _ _ _ _ _ _); first | refine M2.DQ.step2 (M2.LS.callG [0, 5] (caps := []) rfl rfl rfl rfl rfl d2 (fun _ => rfl) (bs := [⟨112, 3, [[.imm (.sl ((p1).F.map Node.iv)), .os 5 (p1).L.length, iav (p1).why]]⟩, ⟨58, 36, (p1).L.map rowC⟩]) rfl (fun n => by simp only [List.map_cons, List.map_nil, renC]; rfl) rfl rfl (by simp only [qax]; exact ⟨⟨rfl, rfl, rfl⟩, qd _ _⟩) rfl (by simp only [qax]; exact ⟨⟨rfl, rfl, rfl⟩, qd _ _⟩) rfl (hpA := [⟨112, 3, [[.imm (.sl ((p2).F.map Node.iv)), .os 5 (p2).L.length, iav (p2).why]]⟩, ⟨58, 36, (p2).L.map rowC⟩]) (fun n => by simp only [List.map_cons, List.map_nil, renC]; rfl) (r' := bav b2) (fun _ => rfl)) rfl rfl rfl rfl rfl ?_ | refine M2.DQ.stepc (yai rfl rfl rfl rfl rfl c6 rfl) rfl rfl rfl rfl rfl ?_ | refine M2.DQ.stepc (LS.val tabs rfl rfl rfl) rfl rfl rfl rfl rfl ?_ | refine M2.DQ.stepc (yu rfl rfl) rfl rfl rfl rfl rfl ?_ | refine M2.DQ.nilM (by kernel_rfl) ?_ | refine M2.DQ.stepc (yad rfl rfl rfl rfl rfl rfl (by omega) (by omega)) rfl rfl rfl rfl rfl ?_ | (refine M2.DQ.gsplitE rfl rfl rfl (fun hc => ?_) (fun hc => ?_) <;> (fail_if_success (exact absurd hc (by decide))) <;> (try simp only [hsx] at hc) <;> (try first | omega | contradiction | (simp [qa] at hc; done)))) | refine M2.drawW (id := 12) mixed (by kernel_rfl) ?_ | refine ym ?_ | refine ya ?_ | refine yb ?_ | refine yg ?_ | refine yi rfl ?_ | refine yh rfl ?_ | (refine yk rfl (fun hc => ?_) (fun hc => ?_) <;> (try simp only [hsx] at hc) <;> (try first | omega | contradiction | (simp [qa] at hc; done))) | refine yo ?_ | refine yc ?_ | refine yr mixed (by kernel_rfl) ?_))
    all_goals first
      | exact ycc trivial (yag 6 rfl (by repeat' (first | exact trivial | refine ⟨rfl, ?_⟩)) rfl (by simp only [qax]; exact ⟨⟨rfl, rfl, rfl⟩, rfl, rfl, qba (nodeAt f h) _, rfl, qd _ _⟩) (Nat.zero_le _))
  · have e := S.lone (.inr (by assumption))
    subst e
    exact ycc trivial (yag 6 rfl (by repeat' (first | exact trivial | refine ⟨rfl, ?_⟩)) rfl (by simp only [qax]; exact ⟨⟨rfl, rfl, rfl⟩, rfl, rfl, qba (nodeAt f h) _, rfl, qd _ _⟩) (Nat.zero_le _))
  · have e := S.lone (.inl (by rw [hc] at hx; cases b1 <;> simp at hx <;> first | rfl | omega))
    subst e
    exact ycc trivial (yag 6 rfl (by repeat' (first | exact trivial | refine ⟨rfl, ?_⟩)) rfl (by simp only [qax]; exact ⟨⟨rfl, rfl, rfl⟩, rfl, rfl, qba (nodeAt f h) _, rfl, qd _ _⟩) (Nat.zero_le _))
  · unfold ansS
    by_cases hw : q.why = 0
    · rw [if_pos hw]
      have c8 := qhp q hw hL (hL0 hw) hfc
      (repeat' (first | ((with_reducible show AL _ _ _ _ _); first | refine AL.op rfl (yaz tabs rfl rfl rfl rfl rfl rfl (by omega) (by omega)) ?_ | (refine yf tabs rfl ?_; try dsimp only [len, List.nil_append, List.cons_append]) | refine yz [0, 5] 6 rfl rfl rfl rfl rfl (caps := []) rfl c7 rfl (by simp only [List.map_cons, List.map_nil, renC]; rfl) rfl rfl (by simp only [qax]; exact ⟨⟨rfl, rfl, rfl⟩, qd _ _⟩) rfl (by simp only [qax]; exact ⟨⟨rfl, rfl, rfl⟩, qd _ _⟩) rfl (hpA := [⟨112, 3, [[.imm (.sl ((q).F.map Node.iv)), .os 5 (q).L.length, iav (q).why]]⟩, ⟨58, 36, (q).L.map rowC⟩]) (by simp only [List.map_cons, List.map_nil, renC]; rfl) (r' := bav b5) rfl rfl ?_; try dsimp only [setAll, List.drop_succ_cons, List.drop_zero, List.drop_nil, List.set_cons_succ, List.set_cons_zero, List.cons_append, List.nil_append, List.append_nil, len, Nat.reduceAdd] | refine yz [0, 5] 6 rfl rfl rfl rfl rfl (caps := []) rfl c8 rfl (by simp only [List.map_cons, List.map_nil, renC]; rfl) rfl rfl (by simp only [qax]; exact ⟨⟨rfl, rfl, rfl⟩, qd _ _⟩) rfl (by simp only [qax]; exact ⟨⟨rfl, rfl, rfl⟩, qd _ _, rfl, qd _ _⟩) rfl (hpA := [⟨112, 3, [[.imm (.sl ((q).F.map Node.iv)), .os 5 (q).L.length, iav (q).why]]⟩, ⟨58, 36, (q).L.map rowC⟩, ⟨24, 1, [[.imm (.sl ((q).F.map Node.iv))]]⟩, ⟨58, 36, (q).L.map rowC⟩]) (by simp only [List.map_cons, List.map_nil, renC]; rfl) (r' := .tup [fav q.F, .os 7 q.L.length, iav 0]) rfl rfl ?_; try dsimp only [setAll, List.drop_succ_cons, List.drop_zero, List.drop_nil, List.set_cons_succ, List.set_cons_zero, List.cons_append, List.nil_append, List.append_nil, len, Nat.reduceAdd] | refine yn ?_ | (refine yq rfl rfl rfl (fun hc => ?_) (fun hc => ?_) <;> (fail_if_success (exact absurd hc (by decide))) <;> (try simp only [hsx] at hc) <;> (try first | omega | contradiction | (simp [qa] at hc; done))) | (refine AL.op rfl (yj rfl rfl rfl rfl rfl (by omega) (by omega)) ?_)) | ((with_reducible show DQ _ _ _ _ _ _); first | refine DQ.stepc (LS.store (i := ti24) (v := fav q.F) (ty := 24) (sz := 1) (rows := [ti24.zero]) (r := ti24.zero) tabs rfl rfl rfl rfl rfl rfl rfl rfl rfl rfl (Nat.le_of_ble_eq_true rfl) rfl) rfl rfl rfl rfl rfl ?_ | refine DQ.stepc (LS.val tabs rfl rfl rfl) rfl rfl rfl rfl rfl ?_ | refine DQ.stepc (yu rfl rfl) rfl rfl rfl rfl rfl ?_ | refine DQ.nilM (by kernel_rfl) ?_ | refine DQ.stepc (yad rfl rfl rfl rfl rfl rfl (by omega) (by omega)) rfl rfl rfl rfl rfl ?_ | (refine DQ.gsplitE rfl rfl rfl (fun hc => ?_) (fun hc => ?_) <;> (fail_if_success (exact absurd hc (by decide))) <;> (try simp only [hsx] at hc) <;> (try first | omega | contradiction | (simp [qa] at hc; done)))) | refine ym ?_ | refine ya ?_ | refine yb ?_ | refine yg ?_ | refine yi rfl ?_ | refine yh rfl ?_ | (refine yk rfl (fun hc => ?_) (fun hc => ?_) <;> (try simp only [hsx] at hc) <;> (try first | omega | contradiction | (simp [qa] at hc; done))) | refine yo ?_ | refine yc ?_ | refine yr mixed (by kernel_rfl) ?_))
      all_goals first
        | exact yap rfl (ya5 (.cons (Fz.im rfl) (.cons (Fz.im rfl) (.cons (Fz.os (b := ⟨58, 36, q.L.map rowC⟩) (rows := q.L.map Change.iv) rfl (List.length_map _).symm (by rw [List.map_map]; rfl)) (.cons (Fz.im rfl) .nil)))))
    · rw [if_neg hw]
      have c8 := qeb q hw
      (repeat' (first | ((with_reducible show AL _ _ _ _ _); first | refine AL.op rfl (yaz tabs rfl rfl rfl rfl rfl rfl (by omega) (by omega)) ?_ | (refine yf tabs rfl ?_; try dsimp only [len, List.nil_append, List.cons_append]) | refine yz [0, 5] 6 rfl rfl rfl rfl rfl (caps := []) rfl c7 rfl (by simp only [List.map_cons, List.map_nil, renC]; rfl) rfl rfl (by simp only [qax]; exact ⟨⟨rfl, rfl, rfl⟩, qd _ _⟩) rfl (by simp only [qax]; exact ⟨⟨rfl, rfl, rfl⟩, qd _ _⟩) rfl (hpA := [⟨112, 3, [[.imm (.sl ((q).F.map Node.iv)), .os 5 (q).L.length, iav (q).why]]⟩, ⟨58, 36, (q).L.map rowC⟩]) (by simp only [List.map_cons, List.map_nil, renC]; rfl) (r' := bav b5) rfl rfl ?_; try dsimp only [setAll, List.drop_succ_cons, List.drop_zero, List.drop_nil, List.set_cons_succ, List.set_cons_zero, List.cons_append, List.nil_append, List.append_nil, len, Nat.reduceAdd] | refine yz [0, 5] 6 rfl rfl rfl rfl rfl (caps := []) rfl c8 rfl (by simp only [List.map_cons, List.map_nil, renC]; rfl) rfl rfl (by simp only [qax]; exact ⟨⟨rfl, rfl, rfl⟩, qd _ _⟩) rfl (by simp only [qax]; exact ⟨⟨rfl, rfl, rfl⟩, qd _ _⟩) rfl (hpA := [⟨112, 3, [[.imm (.sl ((q).F.map Node.iv)), .os 5 (q).L.length, iav (q).why]]⟩, ⟨58, 36, (q).L.map rowC⟩]) (by simp only [List.map_cons, List.map_nil, renC]; rfl) (r' := .tup [.agg [.nils], .nils, iav q.why]) rfl rfl ?_; try dsimp only [setAll, List.drop_succ_cons, List.drop_zero, List.drop_nil, List.set_cons_succ, List.set_cons_zero, List.cons_append, List.nil_append, List.append_nil, len, Nat.reduceAdd] | refine yn ?_ | (refine yq rfl rfl rfl (fun hc => ?_) (fun hc => ?_) <;> (fail_if_success (exact absurd hc (by decide))) <;> (try simp only [hsx] at hc) <;> (try first | omega | contradiction | (simp [qa] at hc; done))) | (refine AL.op rfl (yj rfl rfl rfl rfl rfl (by omega) (by omega)) ?_)) | ((with_reducible show DQ _ _ _ _ _ _); first | refine DQ.stepc (LS.store (i := ti24) (v := .agg [.nils]) (ty := 24) (sz := 1) (rows := [ti24.zero]) (r := ti24.zero) tabs rfl rfl rfl rfl rfl rfl rfl rfl rfl rfl (Nat.le_of_ble_eq_true rfl) rfl) rfl rfl rfl rfl rfl ?_ | refine DQ.stepc (LS.val tabs rfl rfl rfl) rfl rfl rfl rfl rfl ?_ | refine DQ.stepc (yu rfl rfl) rfl rfl rfl rfl rfl ?_ | refine DQ.nilM (by kernel_rfl) ?_ | refine DQ.stepc (yad rfl rfl rfl rfl rfl rfl (by omega) (by omega)) rfl rfl rfl rfl rfl ?_ | (refine DQ.gsplitE rfl rfl rfl (fun hc => ?_) (fun hc => ?_) <;> (fail_if_success (exact absurd hc (by decide))) <;> (try simp only [hsx] at hc) <;> (try first | omega | contradiction | (simp [qa] at hc; done)))) | refine ym ?_ | refine ya ?_ | refine yb ?_ | refine yg ?_ | refine yi rfl ?_ | refine yh rfl ?_ | (refine yk rfl (fun hc => ?_) (fun hc => ?_) <;> (try simp only [hsx] at hc) <;> (try first | omega | contradiction | (simp [qa] at hc; done))) | refine yo ?_ | refine yc ?_ | refine yr mixed (by kernel_rfl) ?_))
      all_goals first
        | exact RQ.fin rfl rfl rfl
noncomputable def txt (f : List Node) (x : Int) : Bool := dec (textB (nodeAt f x).kind)
theorem qji (f : List Node) (x : Int) (hl : f.length ≤ 1000000000) : GenC Tryz.prog 59 [⟨24, 1, [[.imm (.sl (f.map Node.iv))]]⟩] [iav x, .ptr 0 1 0 0] (bav (txt f x)) [⟨24, 1, [[.imm (.sl (f.map Node.iv))]]⟩] := by
  have c1 := qw f x hl
  have c2 := qil (nodeAt f x).kind
  unfold txt
  refine yah tabs Tryz.func59 9 [.tmp 3] rfl rfl rfl rfl rfl ?_; intro w0 X γ κ
  (repeat' (first | ((with_reducible show AL _ _ _ _ _); first | (refine yf tabs rfl ?_; try dsimp only [len, List.nil_append, List.cons_append]) | refine AL.op rfl (yd rfl rfl rfl rfl c1 rfl) ?_ | refine AL.op rfl (yd rfl rfl rfl rfl c2 rfl) ?_ | refine yn ?_) | refine ym ?_ | refine ya ?_ | refine yb ?_ | refine yg ?_ | refine yo ?_ | refine yc ?_))
  exact yal 1 rfl rfl rfl rfl rfl (by simp [cxG])
theorem txt0 (f : List Node) : txt f 0 = false := by
  unfold txt nodeAt
  rw [if_neg (by omega), qi]
  simp [textB, n0]
theorem qhf : ∀ (l : List Int) (k : Int) (j : Nat), l.Nodup → j < l.length → idxGo l (l.getD j default) k = k + j
  | [], _, _, _, h => by simp at h
  | y :: l, k, 0, _, _ => by simp [idxGo]
  | y :: l, k, j + 1, hn, h => by
    rw [List.nodup_cons] at hn
    have h' : j < l.length := by simpa using h
    have hm : l.getD j default ∈ l := by
      rw [List.getD_eq_getElem?_getD, List.getElem?_eq_getElem h']
      exact List.getElem_mem h'
    simp only [List.getD_cons_succ]
    unfold idxGo
    have hne : ¬ l.getD j default = y := fun e => hn.1 (e ▸ hm)
    rw [if_neg hne, qhf l (k + 1) j hn.2 h']
    omega
theorem qjj {l : List Int} (hn : l.Nodup) {j : Int} (h0 : 0 ≤ j) (h1 : j < l.length) : idx l (atI l j) = j := by
  have := qhf l 0 j.toNat hn (by omega)
  unfold idx atI
  rw [this]
  omega
theorem qjk {l : List Int} {x : Int} (h : x ∈ l) : ∃ j : Int, 0 ≤ j ∧ j < l.length ∧ atI l j = x := by
  obtain ⟨j, hj, e⟩ := List.getElem_of_mem h
  refine ⟨j, by omega, by omega, ?_⟩
  unfold atI
  rw [Int.toNat_natCast, List.getD_eq_getElem?_getD, List.getElem?_eq_getElem hj]
  exact e
theorem qfr {f : List Node} (hr : rightP f) {h : Int} (hh : inR f h) (hp : (nodeAt f h).parent ≠ 0) : inR f (nodeAt f h).parent ∧ h ∈ (nodeAt f (nodeAt f h).parent).kids := by
  have hl := (qb4 hr hh).2.1.1
  rcases hl with h0 | ⟨h1, h2⟩
  · exact absurd h0 hp
  · refine ⟨qla.1 h1, ?_⟩
    have : 0 < cntB (nodeAt f (nodeAt f h).parent).kids h := by omega
    unfold cntB at this
    rw [List.countP_pos_iff] at this
    obtain ⟨a, ha, e⟩ := this
    have : a = h := by simpa using e
    exact this ▸ ha
theorem qfs {f : List Node} (hr : rightP f) {q k : Int} (hq : inR f q) (hk : k ∈ (nodeAt f q).kids) : inR f k ∧ (nodeAt f k).parent = q := by
  obtain ⟨h1, h2⟩ := qcx _ _ (qci hr hq).1 k hk
  exact ⟨qla.1 h1, h2⟩
theorem qdw {f : List Node} (hr : rightP f) {q : Int} (hq : inR f q) : (nodeAt f q).kids.Nodup := (qb0 _ _ (qci hr hq).1).1
def offI (l : List Int) (j : Int) : Int := if j < 0 ∨ (l.length : Int) ≤ j then 0 else atI l j
theorem qjl {f : List Node} (hr : rightP f) {q : Int} (hq : inR f q) {j b : Int} (h0 : 0 ≤ j) (h1 : j < (nodeAt f q).kids.length) : besideP f (atI (nodeAt f q).kids j) b = offI (nodeAt f q).kids (j + b) := by
  have hm := qfs hr hq (qau h0 h1)
  unfold besideP offI
  rw [hm.2, if_neg (by have := hq.1; omega), qjj (qdw hr hq) h0 h1]
def leftN (t : Int → Bool) (l : List Int) : Nat → Nat
  | 0 => 0
  | j + 1 => if t (atI l j) = true then leftN t l j else j + 1
def runGo (f : List Node) (t : Int → Bool) : List Int → List Int
  | [] => []
  | x :: r => if t x = true then (nodeAt f x).data ++ runGo f t r else []
noncomputable def wholeP (f : List Node) (h : Int) : List Int :=
  if (nodeAt f h).parent = 0 then (nodeAt f h).data else
    runGo f (txt f) ((nodeAt f (nodeAt f h).parent).kids.drop (leftN (txt f) (nodeAt f (nodeAt f h).parent).kids (idx (nodeAt f (nodeAt f h).parent).kids h).toNat))
theorem qaw {f : List Node} {h : Int} {b : Bool} (he : cfP f h b = 0) : rightP f ∧ inR f h ∧ (b = true → textB (nodeAt f h).kind) ∧ dataB (nodeAt f h).kind := by
  unfold cfP at he
  split at he
  · rename_i h1; exact absurd he h1
  · rename_i h1
    have h1 : faultR f [h] = 0 := by simpa using h1
    unfold faultR at h1
    split at h1
    · rename_i hr
      rw [qc] at hr
      split at h1
      · rename_i hi
        split at he
        · cases he
        · rename_i h2
          refine ⟨hr, qla.1 (by simpa using hi), fun hb => ?_, ?_⟩
          · apply Classical.byContradiction
            intro h3
            exact h2 (.inr ⟨hb, by rw [qi]; exact h3⟩)
          · apply Classical.byContradiction
            intro h3
            exact h2 (.inl (by rw [qi]; exact h3))
      · cases h1
    · cases h1
theorem srcU {C : Cx} {s : St} {tx : TypeId} {y : Operand} (hT : TsOK C.P tab) {i : TI} (hi : look tab tx = some i) {e : TypeId} (hk : i.kd = .sl e) (d : List Int) (hy : s.ev y = some (.imm (.sl (d.map u16)))) : SrcA C s ti55 tx y (d.map cU) := by
  have := SrcA.imm (ie := ti55) hT hi hk hy (qez d)
  rw [List.map_map] at this
  exact this
theorem qox (l : List Int) (k : Nat) : (l.map cU).all (fun r => r.all (AV.sc1 k)) = true := by
  rw [List.all_map, List.all_eq_true]
  exact fun n _ => rfl
theorem qeh (f : List Node) (t : Int → Bool) (l : List Int) {k : Int} (h0 : 0 ≤ k) (h1 : k < l.length) : runGo f t (l.drop k.toNat) = if t (atI l k) = true then (nodeAt f (atI l k)).data ++ runGo f t (l.drop (k + 1).toNat) else [] := by
  rw [qe h0 h1]
  rfl
theorem qlk (f : List Node) (h : Int) (hf : Fit f) (he : cfP f h true = 0) (hp : (nodeAt f h).parent ≠ 0) : PureC Tryz.prog 18 [fav f, iav h] (.tup [.imm (.sl ((wholeP f h).map u16)), iav 0]) := by
  have hl := hf.len
  obtain ⟨hr, hin, ht, _⟩ := qaw he
  have c1 := q8 f h true hf
  rw [he] at c1
  obtain ⟨hq, hm⟩ := qfr hr hin hp
  obtain ⟨w, hw⟩ : ∃ w, w = wholeP f h := ⟨_, rfl⟩
  have hwE : wholeP f h = runGo f (txt f) ((nodeAt f (nodeAt f h).parent).kids.drop (leftN (txt f) (nodeAt f (nodeAt f h).parent).kids (idx (nodeAt f (nodeAt f h).parent).kids h).toNat)) := by unfold wholeP; rw [if_neg hp]
  rw [← hw] at hwE ⊢
  obtain ⟨q, hqe⟩ : ∃ q, q = (nodeAt f h).parent := ⟨_, rfl⟩
  rw [← hqe] at hq hm hp hwE
  have hat := @qjl f hr q hq
  have hpar : ∀ j : Int, 0 ≤ j → j < (nodeAt f q).kids.length → (nodeAt f (atI (nodeAt f q).kids j)).parent = q := fun j j0 j1 => (qfs hr hq (qau j0 j1)).2
  have hfew := qco hr q
  have hnd := qdw hr hq
  obtain ⟨l, hle⟩ : ∃ l, l = (nodeAt f q).kids := ⟨_, rfl⟩
  rw [← hle] at hat hpar hfew hnd hm hwE
  obtain ⟨i, i0, i1, hi⟩ := qjk hm
  rw [← hi, qjj hnd i0 i1] at hwE
  have c2 := qc9 f h (-1) hf (by omega) (by omega)
  rw [← hi, hat (b := -1) i0 i1, hi] at c2
  refine yp tabs Tryz.func18 49 [.tmp 4, .tmp 5] rfl rfl rfl rfl rfl ?_; intro w0 X
  (repeat' (first | ((with_reducible show AL _ _ _ _ _); first | (refine yf tabs rfl ?_; try dsimp only [len, List.nil_append, List.cons_append]) | refine AL.op rfl (yd rfl rfl rfl rfl c1 rfl) ?_ | refine AL.op rfl (yd rfl rfl rfl rfl c2 rfl) ?_ | refine yn ?_) | refine ym ?_ | refine ya ?_ | refine yb ?_ | refine yg ?_ | refine AW.block ?_ | refine yy ?_ | refine yi rfl ?_ | refine yh rfl ?_ | (refine yk rfl (fun hc => ?_) (fun hc => ?_) <;> (try simp only [hsx] at hc) <;> (try first | omega | contradiction | (simp [qa] at hc; done))) | refine yo ?_ | refine yaa ?_ | refine yc ?_ | refine yt ?_ | refine yab ?_ | refine yx ?_ | refine InB.off rfl ?_ | refine yaf ?_ | refine yac ?_))
  refine yao (α := Int) (fun j => ⟨[(2, .ptr 0 1 0 0), (7, .fn 59 [.ptr 0 1 0 0]), (8, iav (atI l j)), (9, iav (offI l (j + -1)))], [⟨24, 1, [[.imm (.sl (f.map Node.iv))]]⟩]⟩) (fun j => 0 ≤ j ∧ j ≤ i ∧ leftN (txt f) l j.toNat = leftN (txt f) l i.toNat) (fun j => j.toNat) i (yag 1 rfl ⟨rfl, rfl, by rw [hi]; rfl, rfl, trivial⟩ rfl rfl (Nat.zero_le _)) ⟨i0, Int.le_refl _, rfl⟩ ?_
  rintro j ⟨j0, j1, hj⟩
  have d0 := qji f (offI l (j + -1)) hl
  obtain ⟨b, hb⟩ : ∃ b, b = txt f (offI l (j + -1)) := ⟨_, rfl⟩
  rw [← hb] at d0
  have c3 := qc9 f (offI l (j + -1)) (-1) hf (by omega) (by omega)
  (repeat' (first | ((with_reducible show AL _ _ _ _ _); first | (refine yf tabs rfl ?_; try dsimp only [len, List.nil_append, List.cons_append]) | refine yz [0] 1 rfl rfl rfl rfl (caps := [.ptr 0 1 0 0]) rfl rfl d0 rfl rfl rfl rfl rfl rfl rfl rfl (hpA := [⟨24, 1, [[.imm (.sl (f.map Node.iv))]]⟩]) rfl (r' := bav b) rfl rfl ?_; try dsimp only [setAll, List.drop_succ_cons, List.drop_zero, List.drop_nil, List.set_cons_succ, List.set_cons_zero, List.cons_append, List.nil_append, List.append_nil, len, Nat.reduceAdd] | refine AL.op rfl (yd rfl rfl rfl rfl c3 rfl) ?_ | refine yn ?_) | refine ym ?_ | refine ya ?_ | refine yb ?_ | refine yg ?_ | refine AW.block ?_ | refine yy ?_ | refine yi rfl ?_ | refine yh rfl ?_ | (refine yk rfl (fun hc => ?_) (fun hc => ?_) <;> (try simp only [hsx] at hc) <;> (try first | omega | contradiction | (simp [qa] at hc; done))) | refine yo ?_ | refine yaa ?_ | refine yc ?_ | refine yt ?_ | refine yab ?_ | refine yx ?_ | refine InB.off rfl ?_ | refine yaf ?_ | refine yac ?_))
  · have hj0 : 0 ≤ j - 1 := by
      apply Classical.byContradiction
      intro h'
      rw [show offI l (j + -1) = 0 by unfold offI; rw [if_pos (by omega)], txt0, hc] at hb
      cases hb
    have e1 : offI l (j + -1) = atI l (j - 1) := by unfold offI; rw [if_neg (by omega)]; rfl
    have e2 : besideP f (offI l (j + -1)) (-1) = offI l (j - 1 + -1) := by rw [e1]; exact hat hj0 (by omega)
    refine yak (j - 1) (yag 1 rfl ⟨rfl, rfl, by rw [← e1]; rfl, by rw [← e2]; rfl, trivial⟩ rfl rfl (Nat.zero_le _)) ⟨hj0, by omega, ?_⟩ (by omega)
    rw [← hj, show j.toNat = (j - 1).toNat + 1 by omega]
    rw [leftN, if_pos (by rw [show (((j - 1).toNat : Nat) : Int) = j - 1 by omega, ← e1, ← hb]; exact hc)]
  · have hlj : leftN (txt f) l j.toNat = j.toNat := by
      by_cases hj0 : j = 0
      · subst hj0; rfl
      · rw [show j.toNat = (j - 1).toNat + 1 by omega]
        rw [leftN, if_neg ?_]
        rw [show (((j - 1).toNat : Nat) : Int) = j - 1 by omega]
        have e1 : offI l (j + -1) = atI l (j - 1) := by unfold offI; rw [if_neg (by omega)]; rfl
        rw [← e1, ← hb, hc]
        exact Bool.false_ne_true
    refine yb3 (Le.fresh 10 55 1 rfl rfl) ?_
    refine yao (α := Int × List Int) (fun x => ⟨[(2, .ptr 0 1 0 0), (7, .fn 59 [.ptr 0 1 0 0]), (10, .os 1 x.2.length), (11, iav (offI l x.1))], [⟨24, 1, [[.imm (.sl (f.map Node.iv))]]⟩, ⟨55, 1, x.2.map cU⟩]⟩) (fun x => 0 ≤ x.1 ∧ x.1 ≤ l.length ∧ x.2 ++ runGo f (txt f) (l.drop x.1.toNat) = w ∧ (x.2.length : Int) ≤ x.1 * 1000000000) (fun x => (l.length - x.1).toNat) (j, []) (yag 2 rfl ⟨rfl, rfl, rfl, by rw [show offI l j = atI l j by unfold offI; rw [if_neg (by omega)]]; rfl, trivial⟩ rfl rfl (Nat.zero_le _)) ⟨by simp only; omega, by simp only; omega, by rw [List.nil_append, hwE, ← hj, hlj], by simp only [List.length_nil]; omega⟩ ?_
    rintro ⟨k, acc⟩ ⟨k0, k1, hk, hka⟩
    simp only at k0 k1 hk hka
    by_cases hb2 : txt f (offI l k) = true
    · have hk1 : k < l.length := by
        apply Classical.byContradiction
        intro h'
        rw [show offI l k = 0 by unfold offI; rw [if_pos (by omega)], txt0] at hb2
        cases hb2
      have e1 : offI l k = atI l k := by unfold offI; rw [if_neg (by omega)]
      have d1 := qji f (offI l k) hl
      rw [hb2] at d1
      have c4 := qw f (offI l k) hl
      have c5 := qc9 f (offI l k) 1 hf (by omega) (by omega)
      rw [e1] at c4 c5 d1
      rw [hat (b := 1) k0 hk1] at c5
      have hpk := hpar k k0 hk1
      have hdl := (hf.at (atI l k)).data
      rw [qeh f (txt f) l k0 hk1, if_pos (by rw [← e1]; exact hb2), ← List.append_assoc] at hk
      obtain ⟨n, hn⟩ : ∃ n, n = nodeAt f (atI l k) := ⟨_, rfl⟩
      rw [← hn] at c4 hpk hdl hk
      have hacc : acc.length + n.data.length ≤ 10000000000000 := by omega
      simp only [e1]
      (repeat' (first | ((with_reducible show AL _ _ _ _ _); first | (refine yf tabs rfl ?_; try dsimp only [len, List.nil_append, List.cons_append]) | refine yz [0] 2 rfl rfl rfl rfl (caps := [.ptr 0 1 0 0]) rfl rfl d1 rfl rfl rfl rfl rfl rfl rfl rfl (hpA := [⟨24, 1, [[.imm (.sl (f.map Node.iv))]]⟩]) rfl (r' := bav true) rfl rfl ?_; try dsimp only [setAll, List.drop_succ_cons, List.drop_zero, List.drop_nil, List.set_cons_succ, List.set_cons_zero, List.cons_append, List.nil_append, List.append_nil, len, Nat.reduceAdd] | refine AL.op rfl (yd rfl rfl rfl rfl c4 rfl) ?_ | refine AL.op rfl (yd rfl rfl rfl rfl c5 rfl) ?_ | refine yae rfl (ybb (ie := ti55) (xs := acc) (ys := n.data) (g := cU) (ty := 55) (sz := 1) tabs rfl rfl rfl rfl rfl rfl rfl rfl rfl rfl (srcU tabs rfl rfl n.data rfl) (by simp only [ti55]; omega) (by omega)) rfl ?_ | refine yn ?_) | (exfalso; omega) | refine ym ?_ | refine ya ?_ | refine yb ?_ | refine yg ?_ | refine AW.block ?_ | refine yy ?_ | refine yi rfl ?_ | refine yh rfl ?_ | (refine yk rfl (fun hc => ?_) (fun hc => ?_) <;> (try simp only [hsx] at hc) <;> (try first | omega | contradiction | (simp [qa] at hc; done))) | refine yo ?_ | refine yaa ?_ | refine yc ?_ | refine yt ?_ | refine yab ?_ | refine yx ?_ | refine InB.off rfl ?_ | refine yaf ?_ | refine yac ?_))
      refine yak (k + 1, acc ++ n.data) ?_ ?_ ?_
      · exact yag 2 rfl (by repeat' (first | exact trivial | refine ⟨rfl, ?_⟩)) rfl (by simp only [qax]; exact ⟨rfl, qox _ _⟩) (Nat.zero_le _)
      · refine ⟨?_, ?_, hk, ?_⟩
        · show (0 : Int) ≤ k + 1; omega
        · show k + 1 ≤ (l.length : Int); omega
        · simp only [List.length_append]; omega
      · show (l.length - (k + 1) : Int).toNat < (l.length - k : Int).toNat; omega
    · have hb3 : txt f (offI l k) = false := by simpa using hb2
      have d1 := qji f (offI l k) hl
      rw [hb3] at d1
      have ek : acc = w := by
        rw [← hk]
        by_cases hk1 : k < l.length
        · have e1 : offI l k = atI l k := by unfold offI; rw [if_neg (by omega)]
          rw [qeh f (txt f) l k0 hk1, if_neg (by rw [← e1]; exact hb2), List.append_nil]
        · rw [List.drop_eq_nil_of_le (by omega)]; simp [runGo]
      subst ek
      (repeat' (first | ((with_reducible show AL _ _ _ _ _); first | (refine yf tabs rfl ?_; try dsimp only [len, List.nil_append, List.cons_append]) | refine yz [0] 2 rfl rfl rfl rfl (caps := [.ptr 0 1 0 0]) rfl rfl d1 rfl rfl rfl rfl rfl rfl rfl rfl (hpA := [⟨24, 1, [[.imm (.sl (f.map Node.iv))]]⟩]) rfl (r' := bav false) rfl rfl ?_; try dsimp only [setAll, List.drop_succ_cons, List.drop_zero, List.drop_nil, List.set_cons_succ, List.set_cons_zero, List.cons_append, List.nil_append, List.append_nil, len, Nat.reduceAdd] | refine yn ?_) | refine ym ?_ | refine ya ?_ | refine yb ?_ | refine yg ?_ | refine AW.block ?_ | refine yy ?_ | refine yi rfl ?_ | refine yh rfl ?_ | (refine yk rfl (fun hc => ?_) (fun hc => ?_) <;> (try simp only [hsx] at hc) <;> (try first | omega | contradiction | (simp [qa] at hc; done))) | refine yo ?_ | refine yaa ?_ | refine yc ?_ | refine yt ?_ | refine yab ?_ | refine yx ?_ | refine InB.off rfl ?_ | refine yaf ?_ | refine yac ?_))
      exact yap rfl (ya5 (.cons (Fz.os (b := ⟨55, 1, acc.map cU⟩) (rows := acc.map u16) rfl (List.length_map _).symm (by rw [List.map_map]; rfl)) (.cons (Fz.im rfl) .nil)))
end Go.Proofs.YtmhejcnaanocpaaGreat.A
