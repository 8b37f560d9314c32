/- The abstract walk, part Zd: a cell that holds a nil list begins to hold one of the call's own; boxes in a place that was kept. -/
import Derived.Test.YteijifoobaoclaaGreatAwOm
namespace Go.Proofs.YteijifoobaoclaaGreat.A
open Go.RowKit
set_option linter.unusedVariables false
set_option linter.unusedSimpArgs false
section
variable {C : Cx} {s t : St} {γ : Nat → Option Nat} {κ : Nat → Nat} {a : Act} {W : World} {o : Oper} {T : List (Nat × TI)} {l r rest : List Oper} {Q : Exit → St → Prop}
theorem Conc.recell (hC : Conc C s γ κ a W) {p : Nat} {b : Blk} (hb : s.hp[p]? = some b) {rows' : List (List AV)} (hlen : rows'.length = b.rows.length) (hr : ∀ r ∈ rows', r.length = b.sz) (hc : ∀ c ∈ rows'.flatten, c.cell = true)
    (h : ∀ ys, All2 (RepA (St.mm ⟨s.env, s.hp.set p ⟨b.ty, b.sz, rows'⟩⟩ C γ κ W)) b.rows.flatten ys → All2 (RepA (St.mm ⟨s.env, s.hp.set p ⟨b.ty, b.sz, rows'⟩⟩ C γ κ W)) rows'.flatten ys) : Conc C ⟨s.env, s.hp.set p ⟨b.ty, b.sz, rows'⟩⟩ γ κ a W := by
  have hp : p < s.hp.length := (List.getElem?_eq_some_iff.1 hb).1
  have hK : Keep (s.mm C γ κ W) (St.mm ⟨s.env, s.hp.set p ⟨b.ty, b.sz, rows'⟩⟩ C γ κ W) := by
    refine ⟨fun x hx _ => ⟨rfl, ?_⟩, fun id bb hbb => ?_⟩
    · show ¬ nset C.X γ (s.hp.set p _).length x
      rw [List.length_set]; exact hx
    · have hbb' : s.hp[id]? = some bb := hbb
      by_cases e : p = id
      · subst e
        rw [hb] at hbb'
        cases hbb'
        refine ⟨⟨b.ty, b.sz, rows'⟩, ?_, rfl, by simp [hlen], fun _ => ⟨rfl, rfl⟩⟩
        show (s.hp.set p _)[p]? = _
        rw [List.getElem?_set_self hp]
      · refine ⟨bb, ?_, rfl, Nat.le_refl _, fun _ => ⟨rfl, rfl⟩⟩
        show (s.hp.set p _)[id]? = _
        rw [List.getElem?_set_ne e]; exact hbb'
  refine ⟨hC.size, hC.defers, ?_, ?_, ?_, ?_, hC.xlt, hC.old, hC.hos, hC.htape, hC.hout, hC.hsize, hC.lent.keep hK⟩
  · intro t v h
    obtain ⟨x, h1, h2⟩ := hC.env t v h
    exact ⟨x, h1, h2.keep hK⟩
  · intro id bb hbb
    have hbb' : (s.hp.set p ⟨b.ty, b.sz, rows'⟩)[id]? = some bb := hbb
    by_cases e : p = id
    · subst e
      rw [List.getElem?_set_self hp] at hbb'
      obtain rfl := Option.some.inj hbb'
      have hB := hC.blk p b hb
      refine ⟨hB.pos, hr, hc, by rw [show (⟨b.ty, b.sz, rows'⟩ : Blk).rows.length = b.rows.length from hlen]; exact hB.cap, hB.capm, ?_⟩
      rcases hB.mem with ⟨h1, h2, h3⟩ | ⟨g, ys, sp, h1, h2, h3, h4⟩
      · refine .inl ⟨h1, ?_, h3⟩
        show rows' = []
        rw [h2] at hlen
        exact List.length_eq_zero_iff.1 hlen
      · exact .inr ⟨g, ys, sp, h1, h2, h3, h ys (h4.mono fun _ _ h => h.keep hK)⟩
    · rw [List.getElem?_set_ne e] at hbb'
      have hB := hC.blk id bb hbb'
      refine ⟨hB.pos, hB.rows, hB.cell, hB.cap, hB.capm, ?_⟩
      rcases hB.mem with h | ⟨g, ys, sp, h1, h2, h3, h4⟩
      · exact .inl h
      · exact .inr ⟨g, ys, sp, h1, h2, h3, h4.mono fun _ _ h => h.keep hK⟩
  · intro i j g hi hj h1 h2
    exact hC.inj i j g (by simpa using hi) (by simpa using hj) h1 h2
  · intro i g hi hg
    exact hC.own i g (by simpa using hi) hg
theorem Le.freshCell (p off ty2 sz2 : Nat) (hpos : Nat.blt 0 sz2 = true) {ty sz : Nat} {r : List AV} (hp : nth s.hp p = some ⟨ty, sz, [r]⟩) (hoff : nth r off = some .nils) : Le C s ⟨s.env, s.hp.set p ⟨ty, sz, [r.set off (.os (len s.hp) 0)]⟩ ++ [⟨ty2, sz2, []⟩]⟩ := by
  intro γ κ a W hC
  rw [Nat.blt_eq] at hpos
  rw [nth_eq] at hp hoff
  have hpl : p < s.hp.length := (List.getElem?_eq_some_iff.1 hp).1
  obtain ⟨γ', κ', h1, h2, h3, hK⟩ := hC.reserve ty2 sz2 hpos
  have hb : (s.hp ++ [(⟨ty2, sz2, []⟩ : Blk)])[p]? = some ⟨ty, sz, [r]⟩ := by rw [List.getElem?_append_left hpl]; exact hp
  have hB := hC.blk p _ hp
  have hrl : r.length = sz := hB.rows r (by simp)
  refine ⟨γ', κ', ?_⟩
  have := h1.recell (p := p) hb (rows' := [r.set off (.os (len s.hp) 0)]) rfl (by
    intro q hq
    simp only [List.mem_singleton] at hq
    subst hq
    simpa using hrl) (by
    intro c hc
    simp only [List.flatten_cons, List.flatten_nil, List.append_nil] at hc
    rcases List.mem_or_eq_of_mem_set hc with h | h
    · exact hB.cell c (by simpa using h)
    · subst h; rfl) (by
    intro ys hy
    simp only [List.flatten_cons, List.flatten_nil, List.append_nil] at hy ⊢
    obtain ⟨y, y1, y2⟩ := hy.get hoff
    have hos : RepA (St.mm ⟨s.env, (s.hp ++ [(⟨ty2, sz2, []⟩ : Blk)]).set p ⟨ty, sz, [r.set off (.os (len s.hp) 0)]⟩⟩ C γ' κ' W) (.os (len s.hp) 0) y := by
      cases y2
      rw [len_eq]
      refine .os _ _ ⟨ty2, sz2, []⟩ _ _ _ ?_ (Nat.le_refl _) fun _ => ⟨?_, rfl, h3.symm⟩
      · show ((s.hp ++ [(⟨ty2, sz2, []⟩ : Blk)]).set p _)[s.hp.length]? = _
        rw [List.getElem?_set_ne (by omega)]
        simp
      · show none = (γ' s.hp.length).map _
        rw [h2]; rfl
    have := hy.set hos off
    have e : ys.set off y = ys := by
      apply List.ext_getElem?
      intro j
      by_cases e : off = j
      · subst e
        rw [List.getElem?_set_self (List.getElem?_eq_some_iff.1 y1).1, y1]
      · rw [List.getElem?_set_ne e]
    rw [e] at this
    exact this)
  rw [List.set_append, if_pos hpl] at this
  exact this
theorem OpOK.boxAt (p : Nat) (hd : dok C.nt o.dst = true) {t : TypeId} {x : Operand} (ho : o.op = .box t x) {q : AV} (hx : s.ev x = some q) {sz : Nat} (hp : nth s.hp p = some ⟨t, sz, []⟩) (hl : Nat.beq (len (avCells q)) sz = true) (hcell : (avCells q).all AV.cell = true) : OpOK C s o (St.put ⟨s.env, s.hp.set p ⟨t, sz, [avCells q]⟩⟩ o.dst (.ptr p 1 0 0)) := by
  have hl' := Nat.eq_of_beq_eq_true hl
  rw [len_eq] at hl'
  rw [nth_eq] at hp
  refine OpOK.newAt hd hp hl' hcell fun γ κ a W hC => ?_
  refine ⟨_, (hC.ev hx).cells, ?_⟩
  unfold execOp; rw [ho]
  refine val_run ?_
  unfold Instr.box
  rw [Array.toArray_toList]
  rfl
end
end Go.Proofs.YteijifoobaoclaaGreat.A
