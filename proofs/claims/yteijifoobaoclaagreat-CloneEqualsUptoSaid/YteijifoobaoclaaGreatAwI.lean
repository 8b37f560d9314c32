/- The abstract walk, part I: append. -/
import Derived.Test.YteijifoobaoclaaGreatAwH
import Derived.Deep.AppendSrc
namespace Go.Proofs.YteijifoobaoclaaGreat.A
open Go.RowKit
set_option linter.unusedVariables false
set_option linter.unusedSimpArgs false
section
variable {C : Cx} {s : St} {γ : Nat → Option Nat} {κ : Nat → Nat} {a : Act} {W : World} {o : Oper} {T : List (Nat × TI)}
theorem setCells_far (g k : Nat) (hk : k ≠ g) : ∀ (vs : List Value) (o : Nat) (w : World), (w.setCells g o vs).heap[k]? = w.heap[k]?
  | [], o, w => rfl
  | v :: l, o, w => by rw [World.setCells, setCells_far g k hk l]; exact Below.heap_setCell w ⟨g, o, none⟩ v k hk
theorem setCells_same (g : Nat) : ∀ (vs : List Value) (o : Nat) (w : World), (w.setCells g o vs).os = w.os ∧ (w.setCells g o vs).tape = w.tape ∧ (w.setCells g o vs).output = w.output ∧ (w.setCells g o vs).heap.size = w.heap.size
  | [], o, w => ⟨rfl, rfl, rfl, rfl⟩
  | v :: l, o, w => by
    obtain ⟨h1, h2, h3, h4⟩ := setCells_same g l (o + 1) (w.setCell ⟨g, o, none⟩ v)
    exact ⟨h1, h2, h3, by rw [World.setCells, h4]; simp [World.setCell]⟩
theorem setCells_at {g : Nat} {ty : TypeId} : ∀ (vs : List Value) (o : Nat) (w : World) (cur : List Value), w.heap[g]? = some (.cells cur.toArray ty (0, 0)) → o + vs.length ≤ cur.length →
    (w.setCells g o vs).heap[g]? = some (.cells (cur.take o ++ vs ++ cur.drop (o + vs.length)).toArray ty (0, 0))
  | [], o, w, cur, h, hl => by simpa [World.setCells] using h
  | v :: l, o, w, cur, h, hl => by
    simp only [List.length_cons] at hl
    rw [World.setCells]
    have h2 : (w.setCell ⟨g, o, none⟩ v).heap[g]? = some (.cells (cur.set o v).toArray ty (0, 0)) := by
      simp only [World.setCell, Array.getElem?_modify, if_true, h]
      simp
    rw [setCells_at l (o + 1) _ _ h2 (by simp; omega)]
    congr 3
    rw [List.take_set, List.drop_set_of_lt (by omega)]
    simp only [List.length_cons]
    rw [show o + 1 + l.length = o + (l.length + 1) by omega]
    congr 1
    have ho : o < cur.length := by omega
    rw [List.take_succ_eq_append_getElem ho, List.set_append, if_neg (by simp; omega)]
    simp only [List.length_take]
    rw [Nat.min_eq_left (by omega)]
    simp
/-- An own block takes new rows behind the old ones, where it lies. -/
theorem Conc.more {id : Nat} {b : Blk} (hC : Conc C s γ κ a W) (hb : s.hp[id]? = some b) {g : Nat} (hg : γ id = some g) {rows2 : List (List AV)} {news : List Value} (hroom : b.rows.length + rows2.length ≤ κ id)
    (hr2 : ∀ r ∈ rows2, r.length = b.sz) (hc2 : ∀ c ∈ rows2.flatten, c.cell = true) (hrep : All2 (RepA (s.mm C γ κ W)) rows2.flatten news) :
    Conc C ⟨s.env, s.hp.set id ⟨b.ty, b.sz, b.rows ++ rows2⟩⟩ γ κ a (W.setCells g (b.rows.length * b.sz) news) ∧
    Keep (s.mm C γ κ W) (St.mm ⟨s.env, s.hp.set id ⟨b.ty, b.sz, b.rows ++ rows2⟩⟩ C γ κ (W.setCells g (b.rows.length * b.sz) news)) := by
  have hid : id < s.hp.length := (List.getElem?_eq_some_iff.1 hb).1
  have hB := hC.blk id b hb
  obtain ⟨ys, sp, hmem, hlen, hys⟩ := hC.mem hb hg
  have hyl : ys.length = b.rows.length * b.sz := by rw [← hys.length, flat_len hB.rows]
  have hnl : news.length = rows2.length * b.sz := by rw [← hrep.length, flat_len hr2]
  have hle : (b.rows.length + rows2.length) * b.sz ≤ κ id * b.sz := Nat.mul_le_mul_right _ hroom
  rw [Nat.add_mul] at hle
  have hlen' : ys.length + sp.length = κ id * b.sz := by rw [← hlen, List.length_append]
  let b' : Blk := ⟨b.ty, b.sz, b.rows ++ rows2⟩
  let W' := W.setCells g (b.rows.length * b.sz) news
  have hat : W'.heap[g]? = some (.cells ((ys ++ news) ++ sp.drop news.length).toArray b.ty (0, 0)) := by
    have := setCells_at news (b.rows.length * b.sz) W (ys ++ sp) hmem (by rw [List.length_append]; omega)
    rw [show W' = W.setCells g (b.rows.length * b.sz) news from rfl, this, ← hyl, List.take_left, ← List.drop_drop, List.drop_left]
  have hfar := fun k hk => setCells_far g k hk news (b.rows.length * b.sz) W
  have hsame := setCells_same g news (b.rows.length * b.sz) W
  have hKeep : Keep (s.mm C γ κ W) (St.mm ⟨s.env, s.hp.set id b'⟩ C γ κ W') := by
    refine ⟨fun x hx ⟨o, ho⟩ => ⟨?_, ?_⟩, fun id' bb hbb => ?_⟩
    · refine hfar x fun e => hx (.inr ⟨id, hid, ?_⟩)
      rw [e]; exact hg
    · show ¬ nset C.X γ (s.hp.set id b').length x
      rw [List.length_set]; exact hx
    · show ∃ b'', (s.hp.set id b')[id']? = some b'' ∧ _
      have hbb' : s.hp[id']? = some bb := hbb
      by_cases e : id = id'
      · subst e
        rw [hb] at hbb'; cases hbb'
        exact ⟨b', by rw [List.getElem?_set_self hid], rfl, by simp [b'], fun _ => ⟨rfl, rfl⟩⟩
      · exact ⟨bb, by rw [List.getElem?_set_ne e]; exact hbb', rfl, Nat.le_refl _, fun _ => ⟨rfl, rfl⟩⟩
  refine ⟨⟨hC.size, hC.defers, ?_, ?_, ?_, ?_, hC.xlt, ?_, hsame.1.trans hC.hos, hsame.2.1.trans hC.htape, hsame.2.2.1.trans hC.hout, by rw [hsame.2.2.2]; exact hC.hsize, ?_⟩, hKeep⟩
  · intro t v h
    obtain ⟨x, h1, h2⟩ := hC.env t v h
    exact ⟨x, h1, h2.keep hKeep⟩
  · intro id' bb hbb
    have hbb' : (s.hp.set id b')[id']? = some bb := hbb
    by_cases e : id = id'
    · subst e
      rw [List.getElem?_set_self hid] at hbb'
      obtain rfl := Option.some.inj hbb'
      refine ⟨hB.pos, ?_, ?_, ?_, hB.capm, .inr ⟨g, ys ++ news, sp.drop news.length, hg, hat, ?_, ?_⟩⟩
      · intro q hq
        have hq' : q ∈ b.rows ++ rows2 := hq
        rcases List.mem_append.1 hq' with h | h
        · exact hB.rows q h
        · exact hr2 q h
      · intro c hc
        have hc' : c ∈ (b.rows ++ rows2).flatten := hc
        rw [List.flatten_append, List.mem_append] at hc'
        rcases hc' with h | h
        · exact hB.cell c h
        · exact hc2 c h
      · show (b.rows ++ rows2).length ≤ κ id
        rw [List.length_append]; exact hroom
      · show (ys ++ news ++ sp.drop news.length).length = κ id * b.sz
        simp only [List.length_append, List.length_drop]; omega
      · show All2 _ (b.rows ++ rows2).flatten _
        rw [List.flatten_append]
        exact (hys.mono fun _ _ h => h.keep hKeep).append (hrep.mono fun _ _ h => h.keep hKeep)
    · rw [List.getElem?_set_ne e] at hbb'
      have ho := hC.blk id' bb hbb'
      refine ⟨ho.pos, ho.rows, ho.cell, ho.cap, ho.capm, ?_⟩
      rcases ho.mem with ⟨h1, h2, h3⟩ | ⟨g', ys', sp', h1, h2, h3, h4⟩
      · exact .inl ⟨h1, h2, h3⟩
      · have hne : g' ≠ g := by
          intro eg
          rw [eg] at h1
          exact e (hC.inj id id' g hid (List.getElem?_eq_some_iff.1 hbb').1 hg h1)
        exact .inr ⟨g', ys', sp', h1, (hfar g' hne).trans h2, h3, h4.mono fun _ _ h => h.keep hKeep⟩
  · intro i j g' hi hj h1 h2
    exact hC.inj i j g' (by simpa using hi) (by simpa using hj) h1 h2
  · intro i g' hi hg'
    exact hC.own i g' (by simpa using hi) hg'
  · intro x hx hl
    have hne : x ≠ g := by
      intro e
      rcases (hC.own id g hid hg).2 with h | h
      · omega
      · exact hl (by rw [e]; exact h)
    exact (hfar x hne).trans (hC.old x hx hl)
  · exact hC.lent.keep hKeep
/-- An own block moves to a new place, with new rows behind the old ones. -/
theorem Conc.moved {id : Nat} {b : Blk} (hC : Conc C s γ κ a W) (hb : s.hp[id]? = some b) {rows2 : List (List AV)} {ys2 sp2 : List Value} {k : Nat} (hk : b.rows.length + rows2.length ≤ k) (hkm : k ≤ maxLen) (hlen : (ys2 ++ sp2).length = k * b.sz) (hne : rows2 ≠ [])
    (hr2 : ∀ r ∈ rows2, r.length = b.sz) (hc2 : ∀ c ∈ rows2.flatten, c.cell = true) (hrep : All2 (RepA (s.mm C γ κ W)) (b.rows ++ rows2).flatten ys2) :
    ∃ γ' κ', Conc C ⟨s.env, s.hp.set id ⟨b.ty, b.sz, b.rows ++ rows2⟩⟩ γ' κ' a (W.drew.alloc (.cells (ys2 ++ sp2).toArray b.ty)) ∧ γ' id = some W.heap.size ∧ κ' id = k := by
  have hid : id < s.hp.length := (List.getElem?_eq_some_iff.1 hb).1
  have hB := hC.blk id b hb
  let γ' : Nat → Option Nat := fun i => if i = id then some W.heap.size else γ i
  let κ' : Nat → Nat := fun i => if i = id then k else κ i
  have hγ : ∀ i, i ≠ id → γ' i = γ i := fun i hi => by simp [γ', hi]
  have hκ : ∀ i, i ≠ id → κ' i = κ i := fun i hi => by simp [κ', hi]
  have hγn : γ' id = some W.heap.size := by simp [γ']
  have hκn : κ' id = k := by simp [κ']
  let b' : Blk := ⟨b.ty, b.sz, b.rows ++ rows2⟩
  let W' := W.drew.alloc (.cells (ys2 ++ sp2).toArray b.ty)
  have hgl : ∀ i g, i < s.hp.length → γ i = some g → g < W.heap.size := by
    intro i g hi hg
    obtain ⟨bb, hbb⟩ : ∃ bb, s.hp[i]? = some bb := ⟨_, List.getElem?_eq_getElem hi⟩
    obtain ⟨ys, sp, h2, _⟩ := hC.mem hbb hg
    exact blk_lt h2
  have hold : ∀ k o, W.heap[k]? = some o → W'.heap[k]? = some o := fun k o h => heap_alloc_old (W := W.drew) h
  have hnew : W'.heap[W.heap.size]? = some (.cells (ys2 ++ sp2).toArray b.ty (0, 0)) := heap_alloc_new W.drew _
  have hKeep : Keep (s.mm C γ κ W) (St.mm ⟨s.env, s.hp.set id b'⟩ C γ' κ' W') := by
    refine ⟨fun x hx ⟨o, ho⟩ => ⟨?_, ?_⟩, fun id' bb hbb => ?_⟩
    · exact (hold x o ho).trans (Eq.symm ho)
    · show ¬ nset C.X γ' (s.hp.set id b').length x
      rintro (h | ⟨i, hi, hg⟩)
      · exact hx (.inl h)
      · by_cases e : i = id
        · subst e; rw [hγn] at hg; cases hg
          have := blk_lt (W := W) ho
          omega
        · rw [hγ i e] at hg
          exact hx (.inr ⟨i, by simpa using hi, hg⟩)
    · show ∃ b'', (s.hp.set id b')[id']? = some b'' ∧ _
      have hbb' : s.hp[id']? = some bb := hbb
      by_cases e : id = id'
      · subst e
        rw [hb] at hbb'; cases hbb'
        refine ⟨b', by rw [List.getElem?_set_self hid], rfl, by simp [b'], fun h => ?_⟩
        have : rows2.length = 0 := by simp [b'] at h; simpa using h
        exact absurd (List.length_eq_zero_iff.1 this) hne
      · exact ⟨bb, by rw [List.getElem?_set_ne e]; exact hbb', rfl, Nat.le_refl _, fun _ => ⟨hγ id' fun h => e h.symm, hκ id' fun h => e h.symm⟩⟩
  refine ⟨γ', κ', ⟨hC.size, hC.defers, ?_, ?_, ?_, ?_, hC.xlt, ?_, hC.hos, hC.htape, hC.hout, ?_, ?_⟩, hγn, hκn⟩
  · intro t v h
    obtain ⟨x, h1, h2⟩ := hC.env t v h
    exact ⟨x, h1, h2.keep hKeep⟩
  · intro id' bb hbb
    have hbb' : (s.hp.set id b')[id']? = some bb := hbb
    by_cases e : id = id'
    · subst e
      rw [List.getElem?_set_self hid] at hbb'
      obtain rfl := Option.some.inj hbb'
      refine ⟨hB.pos, ?_, ?_, ?_, ?_, .inr ⟨W.heap.size, ys2, sp2, hγn, hnew, ?_, ?_⟩⟩
      · intro q hq
        have hq' : q ∈ b.rows ++ rows2 := hq
        rcases List.mem_append.1 hq' with h | h
        · exact hB.rows q h
        · exact hr2 q h
      · intro c hc
        have hc' : c ∈ (b.rows ++ rows2).flatten := hc
        rw [List.flatten_append, List.mem_append] at hc'
        rcases hc' with h | h
        · exact hB.cell c h
        · exact hc2 c h
      · show (b.rows ++ rows2).length ≤ κ' id
        rw [List.length_append, hκn]; exact hk
      · show κ' id ≤ _
        rw [hκn]; exact hkm
      · show _ = κ' id * _
        rw [hκn]; exact hlen
      · exact hrep.mono fun _ _ h => h.keep hKeep
    · rw [List.getElem?_set_ne e] at hbb'
      have ho := hC.blk id' bb hbb'
      refine ⟨ho.pos, ho.rows, ho.cell, ?_, ?_, ?_⟩
      · show _ ≤ κ' id'
        rw [hκ id' fun h => e h.symm]; exact ho.cap
      · show κ' id' ≤ _
        rw [hκ id' fun h => e h.symm]; exact ho.capm
      rcases ho.mem with ⟨h1, h2, h3⟩ | ⟨g', ys', sp', h1, h2, h3, h4⟩
      · exact .inl ⟨by show γ' id' = none; rw [hγ id' fun h => e h.symm]; exact h1, h2, by show κ' id' = 0; rw [hκ id' fun h => e h.symm]; exact h3⟩
      · exact .inr ⟨g', ys', sp', by show γ' id' = _; rw [hγ id' fun h => e h.symm]; exact h1, hold _ _ h2, by show _ = κ' id' * _; rw [hκ id' fun h => e h.symm]; exact h3, h4.mono fun _ _ h => h.keep hKeep⟩
  · intro i j g hi hj h1 h2
    have hi' : i < s.hp.length := by simpa using hi
    have hj' : j < s.hp.length := by simpa using hj
    by_cases e1 : i = id <;> by_cases e2 : j = id
    · rw [e1, e2]
    · rw [e1, hγn] at h1; cases h1
      rw [hγ j e2] at h2
      have := hgl j _ hj' h2; omega
    · rw [e2, hγn] at h2; cases h2
      rw [hγ i e1] at h1
      have := hgl i _ hi' h1; omega
    · rw [hγ i e1] at h1; rw [hγ j e2] at h2
      exact hC.inj i j g hi' hj' h1 h2
  · intro i g hi hg
    have hi' : i < s.hp.length := by simpa using hi
    by_cases e1 : i = id
    · rw [e1, hγn] at hg; cases hg
      refine ⟨fun hX => ?_, .inl hC.hsize⟩
      have := hC.xlt _ hX
      have := hC.hsize
      omega
    · rw [hγ i e1] at hg
      exact hC.own i g hi' hg
  · intro x hx hl
    have := Below.heap_alloc W.drew (.cells (ys2 ++ sp2).toArray b.ty) x (Nat.lt_of_lt_of_le hx hC.hsize)
    exact this.trans (hC.old x hx hl)
  · have := hC.hsize
    show _ ≤ (W.heap.push _).size
    simp; omega
  · exact hC.lent.keep hKeep
theorem append_core {id : Nat} {b : Blk} (hC : Conc C s γ κ a W) (hb : s.hp[id]? = some b) {x : Value} (hx : RepA (s.mm C γ κ W) (.os id b.rows.length) x) {t tx ty e : TypeId} {ie : TI} (hty : b.ty = e) (hsz : b.sz = ie.sz)
    (ht : C.P.underlying t = some (.slice e)) (hTe : TOk C.P e ie) {y : Value} {rows2 : List (List AV)} {news : List Value} (hsrc : Src C.P ie.sz tx y rows2.length news W)
    (hr2 : ∀ r ∈ rows2, r.length = ie.sz) (hc2 : ∀ c ∈ rows2.flatten, c.cell = true) (hrep : All2 (RepA (s.mm C γ κ W)) rows2.flatten news) (hbound : (b.rows.length + rows2.length) * ie.bytes ≤ 140737488355328) (hb63 : b.rows.length + rows2.length ≤ 9223372036854775807) :
    ∃ x' γ' κ' W', (Builtin.append_ #[t, tx] ty #[x, y]).run C.P W = .ok x' W' ∧ Conc C ⟨s.env, s.hp.set id ⟨b.ty, b.sz, b.rows ++ rows2⟩⟩ γ' κ' a W' ∧
      RepA (St.mm ⟨s.env, s.hp.set id ⟨b.ty, b.sz, b.rows ++ rows2⟩⟩ C γ' κ' W') (.os id (b.rows.length + rows2.length)) x' := by
  have hid : id < s.hp.length := (List.getElem?_eq_some_iff.1 hb).1
  have hB := hC.blk id b hb
  obtain ⟨it, z, i1, i2, i3, i4, i5⟩ := hTe.info
  obtain rfl := hx.os_val hb rfl
  have hr2' : ∀ r ∈ rows2, r.length = b.sz := by rw [hsz]; exact hr2
  have hsrc' : Src C.P it.size tx y rows2.length news W := by rw [i2]; exact hsrc
  have os_mk : ∀ {γ' κ' W'} {A : Option Addr} {c : Nat}, A = (γ' id).map (fun g => (⟨g, 0, none⟩ : Addr)) → c = κ' id → RepA (St.mm ⟨s.env, s.hp.set id ⟨b.ty, b.sz, b.rows ++ rows2⟩⟩ C γ' κ' W') (.os id (b.rows.length + rows2.length)) (.slice A (b.rows.length + rows2.length) c) := by
    intro γ' κ' W' A c h1 h2
    refine .os _ _ ⟨b.ty, b.sz, b.rows ++ rows2⟩ _ _ _ ?_ (by simp) fun _ => ⟨h1, rfl, h2⟩
    show (s.hp.set id _)[id]? = _
    rw [List.getElem?_set_self hid]
  by_cases hroom : b.rows.length + rows2.length ≤ κ id
  · cases hg : γ id with
    | some g =>
      obtain ⟨ys, sp, hmem, hlen, hys⟩ := hC.mem hb hg
      obtain ⟨c1, c2⟩ := hC.more hb hg hroom hr2' hc2 hrep
      have hyl : ys.length = b.rows.length * b.sz := by rw [← hys.length, flat_len hB.rows]
      have hnl : news.length = rows2.length * b.sz := by rw [← hrep.length, flat_len hr2']
      have hle : (b.rows.length + rows2.length) * b.sz ≤ κ id * b.sz := Nat.mul_le_mul_right _ hroom
      rw [Nat.add_mul] at hle
      have hlen' : ys.length + sp.length = κ id * b.sz := by rw [← hlen, List.length_append]
      refine ⟨_, γ, κ, _, ?_, c1, os_mk (by rw [hg]) rfl⟩
      have := run_append_room_src W t tx ty e it ht i1 g 0 b.rows.length (κ id) y rows2.length news hsrc' hroom (by
          intro j hj
          rw [blk_cell hmem, i2, ← hsz]
          simp only [List.getElem?_toArray, Nat.zero_add]
          rw [List.getElem?_eq_getElem (by omega)]; rfl) (by
          intro j hj
          exact blk_frozen hmem _)
      simp only [Nat.zero_add, i2, ← hsz] at this
      show (Builtin.append_ #[t, tx] ty #[.slice ((γ id).map _) _ (κ id), y]).run C.P W = _
      rw [hg]
      exact this
    | none =>
      rcases hB.mem with ⟨h1, h2, h3⟩ | ⟨g', ys, sp, h1, _⟩
      · have h3' : κ id = 0 := h3
        have h0 : rows2.length = 0 := by omega
        have hr : rows2 = [] := List.length_eq_zero_iff.1 h0
        subst hr
        have hn : news = [] := by cases hrep; rfl
        subst hn
        have e1 : (⟨s.env, s.hp.set id ⟨b.ty, b.sz, b.rows ++ []⟩⟩ : St) = s := by
          rw [List.append_nil]
          have : s.hp.set id b = s.hp := by
            apply List.ext_getElem?
            intro j
            by_cases e : id = j
            · subst e; rw [List.getElem?_set_self hid, hb]
            · rw [List.getElem?_set_ne e]
          show (⟨s.env, s.hp.set id b⟩ : St) = s
          rw [this]
        have hrun : (Builtin.append_ #[t, tx] ty #[.slice none b.rows.length 0, y]).run C.P W = .ok (.slice none (b.rows.length + 0) 0) W := by
          have hl := hsrc'.len
          have hcl := hsrc'.cells
          have hb0 : b.rows.length = 0 := by rw [h2]; rfl
          simp only [List.length_nil] at hl hcl
          rcases hsrc'.kind with ⟨e', hk⟩ | hk <;> simp [Builtin.append_, run_underlying ht, run_underlying hk, Go.sizeOf, typeInfo, i1, hl, hcl, hb0]
        refine ⟨.slice none (b.rows.length + 0) 0, γ, κ, W, ?_, by rw [e1]; exact hC, os_mk (by rw [hg]; rfl) h3'.symm⟩
        show (Builtin.append_ #[t, tx] ty #[.slice ((γ id).map _) _ (κ id), y]).run C.P W = _
        rw [hg, h3']
        exact hrun
      · have : γ id = some g' := h1
        rw [hg] at this; cases this
  · have hne : rows2 ≠ [] := by
      intro e
      subst e
      have h1 : b.rows.length ≤ κ id := hB.cap
      simp at hroom; omega
    obtain ⟨olds, ho1, ho2⟩ : ∃ olds, All2 (RepA (s.mm C γ κ W)) b.rows.flatten olds ∧ (Builtin.firstCells it.size b.rows.length (.slice ((γ id).map fun g => (⟨g, 0, none⟩ : Addr)) b.rows.length (κ id))).run C.P W.drew = .ok olds.toArray W.drew := by
      cases hg : γ id with
      | none =>
        rcases hB.mem with ⟨h1, h2, h3⟩ | ⟨g', ys, sp, h1, _⟩
        · refine ⟨[], by rw [h2]; exact .nil, ?_⟩
          rw [h2]
          exact run_firstCells_none W.drew it.size 0 0 (κ id)
        · have : γ id = some g' := h1
          rw [hg] at this; cases this
      | some g =>
        obtain ⟨ys, sp, hmem, hlen, hys⟩ := hC.mem hb hg
        refine ⟨ys, hys, ?_⟩
        refine run_firstCells_some W.drew it.size b.rows.length ⟨g, 0, none⟩ b.rows.length (κ id) ys ?_ ?_
        · rw [← hys.length, flat_len hB.rows, i2, hsz]
        · intro j u hj
          have : W.cell? ⟨g, 0 + j, none⟩ = some u := by
            rw [blk_cell hmem]
            simp only [List.getElem?_toArray, Nat.zero_add]
            rw [List.getElem?_append_left (List.getElem?_eq_some_iff.1 hj).1]; exact hj
          have e : (⟨g, 0, none⟩ : Addr).add j = ⟨g, 0 + j, none⟩ := by unfold Addr.add; split <;> simp_all
          rw [e]
          exact this
    have hrun := run_append_grow_src W t tx ty e it z ht i1 i4 ((γ id).map fun g => (⟨g, 0, none⟩ : Addr)) b.rows.length (κ id) olds ho2 y rows2.length news hsrc' (by omega) (by omega) (growslice_fits (by omega) (by rw [i3]; exact hbound))
    have hge := grownCap_ge W (b.rows.length + rows2.length) (κ id) e
    have hcm : grownCap W (b.rows.length + rows2.length) (κ id) e ≤ maxLen := grownCap_le_maxLen W _ (κ id) e (by simpa [maxLen] using hb63)
    have hzl : z.cells.size = ie.sz := by
      have := (constAVs_rep (M := s.mm C γ κ W) i5).length
      rw [hTe.zl] at this
      simpa using this.symm
    have hol : olds.length = b.rows.length * b.sz := by rw [← ho1.length, flat_len hB.rows]
    have hnl : news.length = rows2.length * b.sz := by rw [← hrep.length, flat_len hr2']
    generalize hcap : grownCap W (b.rows.length + rows2.length) (κ id) e = cap at hrun hge hcm
    obtain ⟨γ', κ', c1, c2, c3⟩ := hC.moved hb (rows2 := rows2) (ys2 := olds ++ news) (sp2 := (Builtin.zeroCells z.cells (cap - (b.rows.length + rows2.length))).toList) hge hcm (by
        simp only [List.length_append, Array.length_toList, size_zeroCells, hzl, hol, hnl, hsz]
        rw [← Nat.add_mul, ← Nat.add_mul]
        congr 1
        omega) hne hr2' hc2 (by rw [List.flatten_append]; exact ho1.append hrep)
    refine ⟨_, γ', κ', _, hrun, ?_, os_mk (by rw [c2]; rfl) c3.symm⟩
    have e2 : (olds ++ news).toArray ++ Builtin.zeroCells z.cells (cap - (b.rows.length + rows2.length)) = (olds ++ news ++ (Builtin.zeroCells z.cells (cap - (b.rows.length + rows2.length))).toList).toArray := by
      apply Array.toList_inj.1; simp
    rw [e2, ← hty]
    exact c1
end
end Go.Proofs.YteijifoobaoclaaGreat.A
