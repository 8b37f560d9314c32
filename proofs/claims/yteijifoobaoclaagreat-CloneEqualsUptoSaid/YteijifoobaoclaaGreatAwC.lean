/- The abstract walk, part C: what is known of types, how a state goes on by one operation. -/
import Derived.Test.YteijifoobaoclaaGreatAwB
namespace Go.Proofs.YteijifoobaoclaaGreat.A
open Go.RowKit
set_option linter.unusedVariables false
set_option linter.unusedSimpArgs false

theorem blk_cell {W : World} {g : Nat} {c : Array Value} {ty : TypeId} {f : Nat × Nat} (h : W.heap[g]? = some (.cells c ty f)) (o : Nat) : W.cell? ⟨g, o, none⟩ = c[o]? := by
  unfold World.cell?; rw [h]; rfl
theorem blk_frozen {W : World} {g : Nat} {c : Array Value} {ty : TypeId} (h : W.heap[g]? = some (.cells c ty (0, 0))) (o : Nat) : W.frozen? ⟨g, o, none⟩ = false := by
  unfold World.frozen?; rw [h]; simp
theorem blk_lt {W : World} {g : Nat} {o : Obj} (h : W.heap[g]? = some o) : g < W.heap.size := by
  rcases Nat.lt_or_ge g W.heap.size with h1 | h1
  · exact h1
  · rw [Array.getElem?_eq_none h1] at h; cases h
theorem heap_alloc_new (W : World) (o : Obj) : (W.alloc o).heap[W.heap.size]? = some o := by
  show (W.heap.push o)[W.heap.size]? = _
  simp
theorem heap_alloc_old {W : World} {o o' : Obj} {k : Nat} (h : W.heap[k]? = some o') : (W.alloc o).heap[k]? = some o' := by
  rw [Below.heap_alloc _ _ _ (blk_lt h)]; exact h

theorem flat_get {α : Type} {rows : List (List α)} {sz : Nat} (hr : ∀ r ∈ rows, r.length = sz) : ∀ {i j : Nat} {r : List α}, rows[i]? = some r → j < sz → rows.flatten[i * sz + j]? = r[j]? := by
  induction rows with
  | nil => intro i j r h; simp at h
  | cons a l ih =>
    intro i j r h hj
    have ha := hr a (by simp)
    cases i with
    | zero =>
      simp at h; subst h
      simp only [List.flatten_cons, Nat.zero_mul, Nat.zero_add]
      rw [List.getElem?_append_left (by omega)]
    | succ i =>
      simp at h
      have := ih (fun r hr' => hr r (by simp [hr'])) h hj
      simp only [List.flatten_cons]
      rw [List.getElem?_append_right (by rw [ha, Nat.succ_mul]; omega)]
      rw [← this]
      congr 1
      rw [ha, Nat.succ_mul]; omega
theorem flat_len {α : Type} {rows : List (List α)} {sz : Nat} (hr : ∀ r ∈ rows, r.length = sz) : rows.flatten.length = rows.length * sz := by
  induction rows with
  | nil => simp
  | cons a l ih =>
    have ha := hr a (by simp)
    simp only [List.flatten_cons, List.length_append, List.length_cons, ih (fun r h => hr r (by simp [h])), ha, Nat.succ_mul]
    omega
theorem flat_row {α : Type} {rows : List (List α)} {sz : Nat} (hr : ∀ r ∈ rows, r.length = sz) {i : Nat} {r : List α} (h : rows[i]? = some r) : (rows.flatten.drop (i * sz)).take sz = r := by
  apply List.ext_getElem?
  intro j
  have hl : r.length = sz := hr r (List.mem_of_getElem? h)
  rw [List.getElem?_take]
  split
  · rename_i hj
    rw [List.getElem?_drop, flat_get hr h hj]
  · rename_i hj
    rw [List.getElem?_eq_none (by omega)]
theorem flat_set {α : Type} {rows : List (List α)} {sz : Nat} (hr : ∀ r ∈ rows, r.length = sz) : ∀ {i : Nat} {r r' : List α}, rows[i]? = some r → r'.length = sz →
    (rows.set i r').flatten = rows.flatten.take (i * sz) ++ r' ++ rows.flatten.drop (i * sz + sz) := by
  induction rows with
  | nil => intro i r r' h; simp at h
  | cons a l ih =>
    intro i r r' h hl
    have ha := hr a (by simp)
    cases i with
    | zero =>
      simp only [List.set_cons_zero, List.flatten_cons, Nat.zero_mul, List.take_zero, List.nil_append, Nat.zero_add]
      rw [List.drop_append, List.drop_eq_nil_of_le (by omega), ha]
      simp
    | succ i =>
      simp at h
      have := ih (fun r hr' => hr r (by simp [hr'])) h hl
      have e1 : (i + 1) * sz = a.length + i * sz := by rw [Nat.succ_mul, ha]; omega
      have e2 : (i + 1) * sz + sz = a.length + (i * sz + sz) := by rw [e1]; omega
      simp only [List.set_cons_succ, List.flatten_cons, this, e1, e2, List.take_append, List.drop_append, Nat.add_assoc]
      rw [List.take_of_length_le (show a.length ≤ a.length + i * sz by omega), List.drop_eq_nil_of_le (show a.length ≤ a.length + (i * sz + sz) by omega)]
      simp [List.append_assoc]

/-- A new block; the state's own blocks get one more. -/
theorem Conc.alloc {C : Cx} {s : St} {γ : Nat → Option Nat} {κ : Nat → Nat} {a : Act} {W : World} (hC : Conc C s γ κ a W) (b : Blk) (ys sp : List Value) (k : Nat)
    (hpos : 0 < b.sz) (hrows : ∀ r ∈ b.rows, r.length = b.sz) (hcell : ∀ c ∈ b.rows.flatten, c.cell = true) (hk : b.rows.length ≤ k) (hkm : k ≤ maxLen) (hlen : (ys ++ sp).length = k * b.sz)
    (hrep : All2 (RepA (s.mm C γ κ W)) b.rows.flatten ys) :
    ∃ γ' κ', Conc C ⟨s.env, s.hp ++ [b]⟩ γ' κ' a (W.alloc (.cells (ys ++ sp).toArray b.ty)) ∧ γ' s.hp.length = some W.heap.size ∧ κ' s.hp.length = k ∧ Keep (s.mm C γ κ W) (St.mm ⟨s.env, s.hp ++ [b]⟩ C γ' κ' (W.alloc (.cells (ys ++ sp).toArray b.ty))) := by
  let γ' : Nat → Option Nat := fun i => if i = s.hp.length then some W.heap.size else γ i
  let κ' : Nat → Nat := fun i => if i = s.hp.length then k else κ i
  have hγ : ∀ i, i < s.hp.length → γ' i = γ i := fun i hi => by simp only [γ']; rw [if_neg (by omega)]
  have hκ : ∀ i, i < s.hp.length → κ' i = κ i := fun i hi => by simp only [κ']; rw [if_neg (by omega)]
  have hγn : γ' s.hp.length = some W.heap.size := by simp [γ']
  have hκn : κ' s.hp.length = k := by simp [κ']
  have hgl : ∀ i g, i < s.hp.length → γ i = some g → g < W.heap.size := by
    intro i g hi hg
    obtain ⟨bb, hbb⟩ : ∃ bb, s.hp[i]? = some bb := ⟨_, List.getElem?_eq_getElem hi⟩
    rcases (hC.blk i bb hbb).mem with ⟨h, _⟩ | ⟨g', ys', sp', h1, h2, _⟩
    · have : γ i = none := h
      rw [hg] at this; cases this
    · have e : γ i = some g' := h1
      rw [hg] at e; cases e
      exact blk_lt h2
  have hN : ∀ x, nset C.X γ' (s.hp ++ [b]).length x ↔ (nset C.X γ s.hp.length x ∨ x = W.heap.size) := by
    intro x
    simp only [nset, List.length_append, List.length_cons, List.length_nil]
    constructor
    · rintro (h | ⟨i, hi, hg⟩)
      · exact .inl (.inl h)
      · by_cases e : i = s.hp.length
        · subst e; rw [hγn] at hg; cases hg; exact .inr rfl
        · rw [hγ i (by omega)] at hg; exact .inl (.inr ⟨i, by omega, hg⟩)
    · rintro ((h | ⟨i, hi, hg⟩) | h)
      · exact .inl h
      · exact .inr ⟨i, by omega, by rw [hγ i hi]; exact hg⟩
      · exact .inr ⟨s.hp.length, by omega, by rw [hγn, h]⟩
  have hKeep : Keep (s.mm C γ κ W) (St.mm ⟨s.env, s.hp ++ [b]⟩ C γ' κ' (W.alloc (.cells (ys ++ sp).toArray b.ty))) := by
    refine ⟨fun x hx ⟨o, ho⟩ => ⟨?_, ?_⟩, fun id bb hbb => ⟨bb, ?_, rfl, Nat.le_refl _, fun _ => ?_⟩⟩
    · have ho' : W.heap[x]? = some o := ho
      show (W.alloc _).heap[x]? = W.heap[x]?
      rw [heap_alloc_old ho', ho']
    · show ¬ nset C.X γ' (s.hp ++ [b]).length x
      rw [hN]
      rintro (h | h)
      · exact hx h
      · have := blk_lt (W := W) ho
        omega
    · show (s.hp ++ [b])[id]? = some bb
      have hbb' : s.hp[id]? = some bb := hbb
      rw [List.getElem?_append_left (List.getElem?_eq_some_iff.1 hbb').1]; exact hbb'
    · have hi : id < s.hp.length := (List.getElem?_eq_some_iff.1 hbb).1
      exact ⟨hγ id hi, hκ id hi⟩
  refine ⟨γ', κ', ⟨hC.size, hC.defers, ?_, ?_, ?_, ?_, hC.xlt, ?_, hC.hos, hC.htape, hC.hout, ?_, ?_⟩, hγn, hκn, hKeep⟩
  · intro t v h
    obtain ⟨x, h1, h2⟩ := hC.env t v h
    exact ⟨x, h1, h2.keep hKeep⟩
  · intro id bb hbb
    have hbb' : (s.hp ++ [b])[id]? = some bb := hbb
    rcases Nat.lt_or_ge id s.hp.length with hi | hi
    · rw [List.getElem?_append_left hi] at hbb'
      have ho := hC.blk id bb hbb'
      refine ⟨ho.pos, ho.rows, ho.cell, ?_, ?_, ?_⟩
      · show _ ≤ κ' id
        rw [hκ id hi]; exact ho.cap
      · show κ' id ≤ _
        rw [hκ id hi]; exact ho.capm
      · rcases ho.mem with ⟨h1, h2, h3⟩ | ⟨g, ys', sp', h1, h2, h3, h4⟩
        · exact .inl ⟨by show γ' id = none; rw [hγ id hi]; exact h1, h2, by show κ' id = 0; rw [hκ id hi]; exact h3⟩
        · exact .inr ⟨g, ys', sp', by show γ' id = some g; rw [hγ id hi]; exact h1, heap_alloc_old h2, by show _ = κ' id * _; rw [hκ id hi]; exact h3, h4.mono fun _ _ h => h.keep hKeep⟩
    · rw [List.getElem?_append_right hi] at hbb'
      have : id = s.hp.length := by
        rcases Nat.eq_or_lt_of_le hi with e | e
        · exact e.symm
        · rw [List.getElem?_eq_none (by simp; omega)] at hbb'; cases hbb'
      subst this
      simp at hbb'
      subst hbb'
      refine ⟨hpos, hrows, hcell, ?_, by show κ' _ ≤ _; rw [hκn]; exact hkm, .inr ⟨W.heap.size, ys, sp, hγn, heap_alloc_new _ _, ?_, hrep.mono fun _ _ h => h.keep hKeep⟩⟩
      · show _ ≤ κ' _; rw [hκn]; exact hk
      · show _ = κ' _ * _; rw [hκn]; exact hlen
  · intro i j g hi hj h1 h2
    have hi' : i < s.hp.length + 1 := by simpa using hi
    have hj' : j < s.hp.length + 1 := by simpa using hj
    by_cases e1 : i = s.hp.length <;> by_cases e2 : j = s.hp.length
    · omega
    · rw [e1, hγn] at h1; cases h1
      rw [hγ j (by omega)] at h2
      have := hgl j _ (by omega) h2; omega
    · rw [e2, hγn] at h2; cases h2
      rw [hγ i (by omega)] at h1
      have := hgl i _ (by omega) h1; omega
    · rw [hγ i (by omega)] at h1; rw [hγ j (by omega)] at h2
      exact hC.inj i j g (by omega) (by omega) h1 h2
  · intro i g hi hg
    have hi' : i < s.hp.length + 1 := by simpa using hi
    by_cases e1 : i = s.hp.length
    · rw [e1, hγn] at hg; cases hg
      refine ⟨fun hX => ?_, .inl hC.hsize⟩
      have := hC.xlt _ hX
      have := hC.hsize
      omega
    · rw [hγ i (by omega)] at hg
      exact hC.own i g (by omega) hg
  · intro x hx hl
    rw [Below.heap_alloc _ _ _ (Nat.lt_of_lt_of_le hx hC.hsize)]
    exact hC.old x hx hl
  · have := hC.hsize
    show _ ≤ (W.heap.push _).size
    simp; omega
  · exact hC.lent.keep hKeep
/-- A store into an own block: row r of block id. -/
theorem Conc.store {C : Cx} {s : St} {γ : Nat → Option Nat} {κ : Nat → Nat} {a : Act} {W : World} (hC : Conc C s γ κ a W) {id : Nat} {b : Blk} (hb : s.hp[id]? = some b) {r : Nat} {row : List AV} (hrow : b.rows[r]? = some row) (off : Nat)
    (seg : List AV) (xs : List Value) (hfit : off + seg.length ≤ b.sz) (hcell : ∀ c ∈ seg, c.cell = true) (hrep : All2 (RepA (s.mm C γ κ W)) seg xs) {g : Nat} (hg : γ id = some g) :
    Conc C ⟨s.env, s.hp.set id ⟨b.ty, b.sz, b.rows.set r (row.take off ++ seg ++ row.drop (off + seg.length))⟩⟩ γ κ a (W.setCells g (r * b.sz + off) xs) := by
  have hid : id < s.hp.length := (List.getElem?_eq_some_iff.1 hb).1
  have hB := hC.blk id b hb
  have hrl : row.length = b.sz := hB.rows row (List.mem_of_getElem? hrow)
  have hrn : r < b.rows.length := (List.getElem?_eq_some_iff.1 hrow).1
  let row' := row.take off ++ seg ++ row.drop (off + seg.length)
  let b' : Blk := ⟨b.ty, b.sz, b.rows.set r row'⟩
  let W' := W.setCells g (r * b.sz + off) xs
  have hl' : row'.length = b.sz := by simp only [row', List.length_append, List.length_take, List.length_drop]; omega
  obtain ⟨ys, sp, hmem, hlen, hys⟩ : ∃ ys sp, W.heap[g]? = some (.cells (ys ++ sp).toArray b.ty (0, 0)) ∧ (ys ++ sp).length = κ id * b.sz ∧ All2 (RepA (s.mm C γ κ W)) b.rows.flatten ys := by
    rcases hB.mem with ⟨h, _⟩ | ⟨g', ys, sp, h1, h2, h3, h4⟩
    · have : γ id = none := h
      rw [hg] at this; cases this
    · have : γ id = some g' := h1
      rw [hg] at this; cases this
      exact ⟨ys, sp, h2, h3, h4⟩
  have hxl : xs.length = seg.length := hrep.length.symm
  have hyl : ys.length = b.rows.length * b.sz := by rw [← hys.length, flat_len hB.rows]
  have hle : (r + 1) * b.sz ≤ b.rows.length * b.sz := Nat.mul_le_mul_right _ hrn
  have hle1 : r * b.sz + off + xs.length ≤ ys.length := by rw [Nat.succ_mul] at hle; omega
  -- the heap behind
  have hfar : ∀ k, k ≠ g → W'.heap[k]? = W.heap[k]? := by
    intro k hk
    have : ∀ (vs : List Value) (o : Nat) (w : World), (w.setCells g o vs).heap[k]? = w.heap[k]? := by
      intro vs
      induction vs with
      | nil => intro o w; rfl
      | cons v l ih =>
        intro o w
        rw [World.setCells, ih]
        exact Below.heap_setCell w ⟨g, o, none⟩ v k hk
    exact this _ _ _
  have hsame : W'.os = W.os ∧ W'.tape = W.tape ∧ W'.output = W.output ∧ W'.heap.size = W.heap.size := by
    have : ∀ (vs : List Value) (o : Nat) (w : World), (w.setCells g o vs).os = w.os ∧ (w.setCells g o vs).tape = w.tape ∧ (w.setCells g o vs).output = w.output ∧ (w.setCells g o vs).heap.size = w.heap.size := by
      intro vs
      induction vs with
      | nil => intro o w; exact ⟨rfl, rfl, rfl, rfl⟩
      | cons v l ih =>
        intro o w
        rw [World.setCells]
        obtain ⟨h1, h2, h3, h4⟩ := ih (o + 1) (w.setCell ⟨g, o, none⟩ v)
        exact ⟨h1, h2, h3, by rw [h4]; simp [World.setCell]⟩
    exact this _ _ _
  have hat : W'.heap[g]? = some (.cells ((ys.take (r * b.sz + off) ++ xs ++ ys.drop (r * b.sz + off + xs.length)) ++ sp).toArray b.ty (0, 0)) := by
    have key : ∀ (vs : List Value) (o : Nat) (w : World) (cur : List Value), w.heap[g]? = some (.cells cur.toArray b.ty (0, 0)) → o + vs.length ≤ cur.length →
        (w.setCells g o vs).heap[g]? = some (.cells (cur.take o ++ vs ++ cur.drop (o + vs.length)).toArray b.ty (0, 0)) := by
      intro vs
      induction vs with
      | nil => intro o w cur h hl; simpa [World.setCells] using h
      | cons v l ih =>
        intro o w cur h hl
        simp only [List.length_cons] at hl
        rw [World.setCells]
        have h2 : (w.setCell ⟨g, o, none⟩ v).heap[g]? = some (.cells (cur.set o v).toArray b.ty (0, 0)) := by
          simp only [World.setCell, Array.getElem?_modify, if_true, h]
          simp
        rw [ih (o + 1) _ _ h2 (by simp; omega)]
        congr 3
        rw [List.take_set, List.drop_set_of_lt (by omega)]
        simp only [List.length_cons]
        rw [show o + 1 + l.length = o + (l.length + 1) by omega]
        congr 1
        have ho : o < cur.length := by omega
        apply List.ext_getElem?
        intro j
        rcases Nat.lt_trichotomy j o with h | h | h
        · rw [List.getElem?_append_left (by simp; omega), List.getElem?_append_left (by simp; omega), List.getElem?_set_ne (by omega), List.getElem?_take_of_lt (by omega), List.getElem?_take_of_lt h]
        · subst h
          rw [List.getElem?_append_left (by simp; omega), List.getElem?_set_self (by simp; omega), List.getElem?_append_right (by simp; omega)]
          simp [Nat.min_eq_left (Nat.le_of_lt ho)]
        · rw [List.getElem?_append_right (by simp; omega), List.getElem?_append_right (by simp; omega)]
          simp only [List.length_set, List.length_take]
          rw [Nat.min_eq_left (by omega), Nat.min_eq_left (by omega), show j - o = (j - (o + 1)) + 1 by omega, List.getElem?_cons_succ]
    have := key xs (r * b.sz + off) W (ys ++ sp) hmem (by simp only [List.length_append]; omega)
    rw [List.take_append_of_le_length (by omega), List.drop_append_of_le_length (by omega)] at this
    rw [show W' = W.setCells g (r * b.sz + off) xs from rfl, this]
    simp [List.append_assoc]
  have hKeep : Keep (s.mm C γ κ W) (St.mm ⟨s.env, s.hp.set id b'⟩ C γ κ W') := by
    refine ⟨fun x hx ⟨o, ho⟩ => ⟨?_, ?_⟩, fun id' bb hbb => ?_⟩
    · refine hfar x fun e => hx (.inr ⟨id, hid, ?_⟩)
      rw [e]; exact hg
    · show ¬ nset C.X γ (s.hp.set id b').length x
      rw [List.length_set]; exact hx
    · show ∃ b'', (s.hp.set id b')[id']? = some b'' ∧ _
      have hbb' : s.hp[id']? = some bb := hbb
      by_cases e : id = id'
      · subst e
        rw [hb] at hbb'; cases hbb'
        exact ⟨b', by rw [List.getElem?_set_self hid], rfl, by simp [b'], fun _ => ⟨rfl, rfl⟩⟩
      · exact ⟨bb, by rw [List.getElem?_set_ne e]; exact hbb', rfl, Nat.le_refl _, fun _ => ⟨rfl, rfl⟩⟩
  refine ⟨hC.size, hC.defers, ?_, ?_, ?_, ?_, hC.xlt, ?_, hsame.1.trans hC.hos, hsame.2.1.trans hC.htape, hsame.2.2.1.trans hC.hout, by rw [hsame.2.2.2]; exact hC.hsize, ?_⟩
  · intro t v h
    obtain ⟨x, h1, h2⟩ := hC.env t v h
    exact ⟨x, h1, h2.keep hKeep⟩
  · intro id' bb hbb
    have hbb' : (s.hp.set id b')[id']? = some bb := hbb
    by_cases e : id = id'
    · subst e
      rw [List.getElem?_set_self hid] at hbb'
      obtain rfl := Option.some.inj hbb'
      have hflat := flat_set hB.rows hrow hl'
      refine ⟨hB.pos, ?_, ?_, ?_, hB.capm, .inr ⟨g, ys.take (r * b.sz + off) ++ xs ++ ys.drop (r * b.sz + off + xs.length), sp, hg, hat, ?_, ?_⟩⟩
      · intro q hq
        rcases List.mem_or_eq_of_mem_set hq with h | h
        · exact hB.rows q h
        · rw [h]; exact hl'
      · intro c hc
        have hc' : c ∈ (b.rows.set r row').flatten := hc
        rw [hflat] at hc'
        have hrf : ∀ c ∈ row, c ∈ b.rows.flatten := fun c hc => List.mem_flatten.2 ⟨row, List.mem_of_getElem? hrow, hc⟩
        simp only [List.mem_append] at hc'
        rcases hc' with (h | h) | h
        · exact hB.cell c (List.mem_of_mem_take h)
        · simp only [row', List.mem_append] at h
          rcases h with (h | h) | h
          · exact hB.cell c (hrf c (List.mem_of_mem_take h))
          · exact hcell c h
          · exact hB.cell c (hrf c (List.mem_of_mem_drop h))
        · exact hB.cell c (List.mem_of_mem_drop h)
      · show (b.rows.set r row').length ≤ κ id
        rw [List.length_set]; exact hB.cap
      · show (ys.take (r * b.sz + off) ++ xs ++ ys.drop (r * b.sz + off + xs.length) ++ sp).length = κ id * b.sz
        rw [← hlen]
        simp only [List.length_append, List.length_take, List.length_drop]
        omega
      · show All2 _ (b.rows.set r row').flatten _
        have e : (b.rows.set r row').flatten = b.rows.flatten.take (r * b.sz + off) ++ seg ++ b.rows.flatten.drop (r * b.sz + off + seg.length) := by
          rw [hflat]
          have hrow' := flat_row hB.rows hrow
          have hfl := flat_len hB.rows
          simp only [row']
          have h1 : b.rows.flatten.take (r * b.sz + off) = b.rows.flatten.take (r * b.sz) ++ row.take off := by
            rw [List.take_add, ← hrow', List.take_take, Nat.min_eq_left (by omega)]
          have h2 : b.rows.flatten.drop (r * b.sz + off + seg.length) = row.drop (off + seg.length) ++ b.rows.flatten.drop (r * b.sz + b.sz) := by
            rw [← hrow']
            apply List.ext_getElem?
            intro j
            rw [List.getElem?_drop]
            rcases Nat.lt_or_ge j (b.sz - (off + seg.length)) with h | h
            · rw [List.getElem?_append_left (by simp only [List.length_drop, List.length_take, hfl]; rw [Nat.succ_mul] at hle; omega), List.getElem?_drop, List.getElem?_take_of_lt (by omega), List.getElem?_drop]
              congr 1; omega
            · rw [List.getElem?_append_right (by simp only [List.length_drop, List.length_take, hfl]; rw [Nat.succ_mul] at hle; omega), List.getElem?_drop]
              congr 1
              simp only [List.length_drop, List.length_take, hfl]; rw [Nat.succ_mul] at hle; omega
          rw [h1, h2]
          simp [List.append_assoc]
        rw [e, hxl]
        have hys' := hys.mono fun _ _ h => h.keep hKeep
        exact ((hys'.take _).append (hrep.mono fun _ _ h => h.keep hKeep)).append (hys'.drop _)
    · rw [List.getElem?_set_ne e] at hbb'
      have ho := hC.blk id' bb hbb'
      refine ⟨ho.pos, ho.rows, ho.cell, ho.cap, ho.capm, ?_⟩
      rcases ho.mem with ⟨h1, h2, h3⟩ | ⟨g', ys', sp', h1, h2, h3, h4⟩
      · exact .inl ⟨h1, h2, h3⟩
      · have hne : g' ≠ g := by
          intro eg
          rw [eg] at h1
          exact e (hC.inj id id' g hid (List.getElem?_eq_some_iff.1 hbb').1 hg h1)
        exact .inr ⟨g', ys', sp', h1, by rw [show (St.mm ⟨s.env, s.hp.set id b'⟩ C γ κ W').W.heap[g']? = W'.heap[g']? from rfl, hfar g' hne]; exact h2, h3, h4.mono fun _ _ h => h.keep hKeep⟩
  · intro i j g' hi hj h1 h2
    exact hC.inj i j g' (by simpa using hi) (by simpa using hj) h1 h2
  · intro i g' hi hg'
    exact hC.own i g' (by simpa using hi) hg'
  · intro x hx hl
    have hne : x ≠ g := by
      intro e
      rcases (hC.own id g hid hg).2 with h | h
      · omega
      · exact hl (by rw [e]; exact h)
    rw [hfar x hne]
    exact hC.old x hx hl
  · exact hC.lent.keep hKeep
end Go.Proofs.YteijifoobaoclaaGreat.A
