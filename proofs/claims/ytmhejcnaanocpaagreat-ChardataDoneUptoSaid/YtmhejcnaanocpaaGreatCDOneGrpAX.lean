/- Plain words about right forests: nodes, kids; what is made and put in at the end leaves a right forest right. -/
import Derived.Test.YtmhejcnaanocpaaGreatCDOneGrpAU
import Derived.Test.YtmhejcnaanocpaaGreatCDOneGrpAW
namespace Go.Proofs.YtmhejcnaanocpaaGreat.A
set_option linter.unusedVariables false
set_option linter.unusedSimpArgs false
set_option maxRecDepth 100000
set_option maxHeartbeats 4000000
theorem nodup_le {α : Type} [DecidableEq α] : ∀ {l m : List α}, l.Nodup → (∀ x ∈ l, x ∈ m) → l.length ≤ m.length
  | [], m, _, _ => Nat.zero_le _
  | x :: r, m, hn, hs => by
    have hx := hs x (by simp)
    rw [List.nodup_cons] at hn
    have := nodup_le (l := r) (m := m.erase x) hn.2 fun y hy => by
      have hne : y ≠ x := fun e => hn.1 (e ▸ hy)
      exact (List.mem_erase_of_ne hne).2 (hs y (by simp [hy]))
    have hl := List.length_erase_of_mem hx
    have : 0 < m.length := List.length_pos_of_mem hx
    simp only [List.length_cons]
    omega
theorem nodup_ge {α : Type} [DecidableEq α] {l m : List α} (hn : l.Nodup) (hs : ∀ x ∈ l, x ∈ m) (hl : l.length = m.length) : ∀ y ∈ m, y ∈ l := by
  intro y hy
  by_cases h : y ∈ l
  · exact h
  · have := nodup_le (l := l) (m := m.erase y) hn fun x hx => by
      have hne : x ≠ y := fun e => h (e ▸ hx)
      exact (List.mem_erase_of_ne hne).2 (hs x hx)
    have hl2 := List.length_erase_of_mem hy
    have : 0 < m.length := List.length_pos_of_mem hy
    omega
section
variable {f : List Node}
theorem right_node (hr : rightP f) {a : Int} (ha : inR f a) : madeP (nodeAt f a) ∧ linksP f a (nodeAt f a) ∧ Good f a := by
  have h := hr.2 (a - 1) (by have := ha.1; omega) (by have := ha.2; omega)
  unfold okP at h
  rw [show a - 1 + 1 = a by omega] at h
  have e : nodeAt f a = atI f (a - 1) := by unfold nodeAt; rw [if_pos (show 1 ≤ a ∧ a ≤ (f.length : Int) from ha)]
  rw [e]
  exact h
theorem node_out {a : Int} (ha : ¬ inR f a) : nodeAt f a = n0 := by unfold nodeAt; rw [if_neg (show ¬ (1 ≤ a ∧ a ≤ (f.length : Int)) from ha)]
theorem kidsGo_mem {h doc : Int} : ∀ (l seen : List Int), kidsGo f h doc seen l = true → ∀ k ∈ l, inB f k = true ∧ (nodeAt f k).parent = h
  | [], _, _, k, hk => by cases hk
  | x :: r, seen, hg, k, hk => by
    rw [kidsGo] at hg
    split at hg
    · cases hg
    rename_i h1
    split at hg
    · cases hg
    split at hg
    · cases hg
    rename_i h3
    split at hg
    · cases hg
    rcases List.mem_cons.1 hk with rfl | hk
    · refine ⟨by simpa using h1, ?_⟩
      rw [dec_false, Decidable.not_not] at h3
      exact h3
    · exact kidsGo_mem r _ hg k hk
theorem famGo_mem {K : Int → Int} {d : Bool} : ∀ (l : List Int) (e t : Int), famGo K d l e t = true → ∀ k ∈ l, K k ≠ 12
  | [], _, _, _, k, hk => by cases hk
  | x :: r, e, t, hg, k, hk => by
    rw [famGo] at hg
    rcases List.mem_cons.1 hk with rfl | hk
    · intro h12
      rw [h12] at hg
      simp at hg
    · split at hg
      · exact famGo_mem r _ _ hg k hk
      split at hg
      · split at hg
        · cases hg
        · exact famGo_mem r _ _ hg k hk
      split at hg
      · split at hg
        · cases hg
        · exact famGo_mem r _ _ hg k hk
      split at hg
      · exact famGo_mem r _ _ hg k hk
      · cases hg
theorem right_kid (hr : rightP f) {a k : Int} (ha : inR f a) (hk : k ∈ (nodeAt f a).kids) : inR f k ∧ upN f k = a := by
  obtain ⟨_, hl, _⟩ := right_node hr ha
  have hkb := hl.2.2.2.2
  unfold kidsB at hkb
  simp only [Bool.and_eq_true] at hkb
  obtain ⟨h1, h2⟩ := kidsGo_mem _ _ hkb.1 k hk
  have h12 := famGo_mem _ _ _ hkb.2 k hk
  have hin : inR f k := by simpa [inB, inR] using h1
  refine ⟨hin, ?_⟩
  have e : nodeAt f k = atI f (k - 1) := by unfold nodeAt; rw [if_pos (show 1 ≤ k ∧ k ≤ (f.length : Int) from hin)]
  unfold upN aboveOf
  rw [← e, if_neg h12]
  exact h2
/-- What holds of a node as soon as it holds of its kids holds of all. -/
theorem right_ind (hr : rightP f) (P : Int → Prop) (step : ∀ a, (∀ k ∈ (nodeAt f a).kids, P k) → P a) : ∀ a, P a := by
  have key : ∀ (m : Nat) (a : Int) (l : List Int), l.length + m = f.length + 1 → l.Nodup → (∀ b ∈ l, inR f b ∧ (b = a ∨ Reach f a b)) → a ∈ l → P a := by
    intro m
    induction m with
    | zero =>
      intro a l hl hn hin _
      exfalso
      have := nodup_le (l := l) (m := (List.range f.length).map fun j : Nat => (j : Int) + 1) hn fun x hx => by
        have hx := (hin x hx).1
        have h1 := hx.1
        have h2 := hx.2
        exact List.mem_map.2 ⟨(x - 1).toNat, List.mem_range.2 (by omega), by omega⟩
      simp at this
      omega
    | succ m ih =>
      intro a l hl hn hin ha
      refine step a fun k hk => ?_
      have hina := (hin a ha).1
      obtain ⟨hink, hup⟩ := right_kid hr hina hk
      have hg := (right_node hr hink).2.2
      have hrk : ∀ b ∈ l, Reach f k b := by
        intro b hb
        have h1 : Reach f k a := hup ▸ reach_one hink
        rcases (hin b hb).2 with rfl | h
        · exact h1
        · obtain ⟨i, i1, i2, i3⟩ := h1
          obtain ⟨j, j1, j2, j3⟩ := h
          refine ⟨i + j, by omega, by rw [itN_add, i2, j2], fun q hq => ?_⟩
          rcases Nat.lt_or_ge q i with h | h
          · exact i3 q h
          · rw [show q = i + (q - i) by omega, itN_add, i2]
            exact j3 _ (by omega)
      refine ih k (k :: l) (by simp; omega) (List.nodup_cons.2 ⟨fun hkl => reach_loop (hrk k hkl) hg, hn⟩) (fun b hb => ?_) (by simp)
      rcases List.mem_cons.1 hb with rfl | hb
      · exact ⟨hink, .inl rfl⟩
      · exact ⟨(hin b hb).1, .inr (hrk b hb)⟩
  intro a
  by_cases ha : inR f a
  · exact key f.length a [a] (by simp; omega) (by simp) (fun b hb => by
      simp only [List.mem_singleton] at hb
      subst hb
      exact ⟨ha, .inl rfl⟩) (by simp)
  · exact step a fun k hk => by
      rw [node_out ha] at hk
      cases hk
end
theorem kidsGo_nodup {f : List Node} {h doc : Int} : ∀ (l seen : List Int), kidsGo f h doc seen l = true → l.Nodup ∧ ∀ k ∈ l, k ∉ seen
  | [], _, _ => ⟨List.nodup_nil, fun a h => by cases h⟩
  | x :: r, seen, hg => by
    rw [kidsGo] at hg
    split at hg
    · cases hg
    split at hg
    · cases hg
    rename_i h2
    split at hg
    · cases hg
    split at hg
    · cases hg
    rw [dec_true] at h2
    obtain ⟨h3, h4⟩ := kidsGo_nodup r _ hg
    refine ⟨List.nodup_cons.2 ⟨fun hm => h4 x hm (by simp), h3⟩, fun k hk => ?_⟩
    rcases List.mem_cons.1 hk with rfl | hk
    · exact h2
    · exact fun hs => h4 k hk (by simp [hs])
theorem kidsGo_doc {f : List Node} {h doc : Int} : ∀ (l seen : List Int), kidsGo f h doc seen l = true → ∀ k ∈ l, (nodeAt f k).doc = doc
  | [], _, _, k, hk => by cases hk
  | x :: r, seen, hg, k, hk => by
    rw [kidsGo] at hg
    split at hg
    · cases hg
    split at hg
    · cases hg
    split at hg
    · cases hg
    split at hg
    · cases hg
    rename_i h4
    rcases List.mem_cons.1 hk with rfl | hk
    · rw [dec_false, Decidable.not_not] at h4
      exact h4
    · exact kidsGo_doc r _ hg k hk
theorem famGo_kinds {K : Int → Int} {d : Bool} : ∀ (l : List Int) (e t : Int), famGo K d l e t = true → ∀ k ∈ l, K k = 1 ∨ K k = 10 ∨ K k = 3 ∨ K k = 4 ∨ K k = 8 ∨ K k = 7
  | [], _, _, _, k, hk => by cases hk
  | x :: r, e, t, hg, k, hk => by
    rw [famGo] at hg
    rcases List.mem_cons.1 hk with rfl | hk
    · split at hg
      · rename_i h; exact .inl h
      split at hg
      · rename_i h; exact .inr (.inl h)
      split at hg
      · rename_i h
        rcases h with h | h
        · exact .inr (.inr (.inl h))
        · exact .inr (.inr (.inr (.inl h)))
      split at hg
      · rename_i h
        rcases h with h | h
        · exact .inr (.inr (.inr (.inr (.inl h))))
        · exact .inr (.inr (.inr (.inr (.inr h))))
      · cases hg
    · split at hg
      · exact famGo_kinds r _ _ hg k hk
      split at hg
      · split at hg
        · cases hg
        · exact famGo_kinds r _ _ hg k hk
      split at hg
      · split at hg
        · cases hg
        · exact famGo_kinds r _ _ hg k hk
      split at hg
      · exact famGo_kinds r _ _ hg k hk
      · cases hg
section
variable {f : List Node}
theorem right_kidsB (hr : rightP f) {a : Int} (ha : inR f a) : kidsGo f a (nodeAt f a).doc [] (nodeAt f a).kids = true ∧ famB f (nodeAt f a) = true := by
  obtain ⟨_, hl, _⟩ := right_node hr ha
  have hkb := hl.2.2.2.2
  unfold kidsB at hkb
  simpa only [Bool.and_eq_true] using hkb
theorem right_kinds (hr : rightP f) {a k : Int} (hk : k ∈ (nodeAt f a).kids) : (nodeAt f k).kind ≠ 12 ∧ (nodeAt f k).kind ≠ 9 := by
  by_cases ha : inR f a
  · have := famGo_kinds _ _ _ (right_kidsB hr ha).2 k hk
    omega
  · rw [node_out ha] at hk
    cases hk
theorem right_few (hr : rightP f) (a : Int) : (nodeAt f a).kids.length ≤ 4096 := by
  by_cases ha : inR f a
  · have hn := (kidsGo_nodup _ _ (right_kidsB hr ha).1).1
    have := nodup_le hn (m := (List.range f.length).map fun j : Nat => (j : Int) + 1) fun x hx => by
      obtain ⟨h, _⟩ := right_kid hr ha hx
      have h1 := h.1
      have h2 := h.2
      exact List.mem_map.2 ⟨(x - 1).toNat, List.mem_range.2 (by omega), by omega⟩
    have h4 := hr.1
    simp at this
    omega
  · rw [node_out ha]
    simp [n0]
theorem node_in {a : Int} (ha : inR f a) : nodeAt f a = atI f (a - 1) := by unfold nodeAt; rw [if_pos (show 1 ≤ a ∧ a ≤ (f.length : Int) from ha)]
end
theorem atI_snoc {α : Type} [Inhabited α] (l : List α) (x : α) (i : Int) (h0 : 0 ≤ i) : atI (l ++ [x]) i = if i = l.length then x else atI l i := by
  unfold atI
  simp only [List.getD_eq_getElem?_getD]
  by_cases h : i = l.length
  · rw [if_pos h]
    subst h
    simp
  · rw [if_neg h]
    rcases Nat.lt_or_ge i.toNat l.length with h1 | h1
    · rw [List.getElem?_append_left h1]
    · rw [List.getElem?_eq_none (by simp; omega), List.getElem?_eq_none (by omega)]
theorem atI_ins (f : List Node) (x p : Int) (hx : inR f x) (hp : inR f p) (hne : x ≠ p) (i : Int) (h0 : 0 ≤ i) : atI (insF f x p) i = if i = p - 1 then { atI f (p - 1) with kids := (atI f (p - 1)).kids ++ [x] } else if i = x - 1 then { atI f (x - 1) with parent := p } else atI f i := by
  have hx1 := hx.1
  have hx2 := hx.2
  have hp1 := hp.1
  have hp2 := hp.2
  unfold insF
  rw [atI_upd _ _ _ (by omega) (by rw [upd_len]; omega) _ h0]
  by_cases e : i = x - 1
  · rw [if_pos e, if_neg (by omega), if_pos e, atI_upd _ _ _ (by omega) (by omega) _ (by omega), if_neg (by omega)]
  · rw [if_neg e, atI_upd _ _ _ (by omega) (by omega) _ h0, if_neg e]
theorem nodup_cnt {l : List Int} (x : Int) (h : x ∉ l) : cntB l x = 0 := by
  unfold cntB
  rw [List.countP_eq_zero]
  intro a ha e
  have : a = x := by simpa using e
  exact h (this ▸ ha)
theorem cnt_snoc (l : List Int) (x h : Int) : cntB (l ++ [x]) h = cntB l h + if x = h then 1 else 0 := by
  unfold cntB
  rw [List.countP_append]
  simp [List.countP_cons]
theorem kidsGo_of {f : List Node} {h doc : Int} : ∀ (l seen : List Int), (∀ k ∈ l, inB f k = true ∧ (nodeAt f k).parent = h ∧ (nodeAt f k).doc = doc ∧ k ∉ seen) → l.Nodup → kidsGo f h doc seen l = true
  | [], _, _, _ => rfl
  | x :: r, seen, h1, h2 => by
    obtain ⟨a1, a2, a3, a4⟩ := h1 x (by simp)
    rw [List.nodup_cons] at h2
    rw [kidsGo, if_neg (by rw [a1]; simp), if_neg (by rw [dec_true]; exact a4), if_neg (by rw [dec_false]; exact fun h => h a2), if_neg (by rw [dec_false]; exact fun h => h a3)]
    refine kidsGo_of r _ (fun k hk => ?_) h2.2
    obtain ⟨b1, b2, b3, b4⟩ := h1 k (by simp [hk])
    refine ⟨b1, b2, b3, fun h => ?_⟩
    rcases List.mem_append.1 h with h | h
    · exact b4 h
    · rw [List.mem_singleton] at h
      exact h2.1 (h ▸ hk)
def famL (d : Bool) : List Int → Int → Int → Bool
  | [], e, t => !d || (decide (e < 2) && decide (t < 2))
  | k :: r, e, t =>
    if k = 1 then famL d r (e + 1) t else
    if k = 10 then (if d = false ∨ 0 < e then false else famL d r e (t + 1)) else
    if k = 3 ∨ k = 4 then (if d = true then false else famL d r e t) else
    if k = 8 ∨ k = 7 then famL d r e t else false
theorem famGo_L (K : Int → Int) (d : Bool) : ∀ (l : List Int) (e t : Int), famGo K d l e t = famL d (l.map K) e t
  | [], _, _ => rfl
  | k :: r, e, t => by
    rw [famGo, List.map_cons, famL, famGo_L K d r (e + 1) t, famGo_L K d r e (t + 1), famGo_L K d r e t]
theorem famL_pre (d : Bool) : ∀ (a b : List Int) (e t : Int), 0 ≤ e → 0 ≤ t → famL d (a ++ b) e t = true → famL d a e t = true
  | [], b, e, t, h1, h2, h => by
    have key : ∀ (b : List Int) (e t : Int), 0 ≤ e → 0 ≤ t → famL d b e t = true → famL d [] e t = true := by
      intro b
      induction b with
      | nil => exact fun e t _ _ h => h
      | cons k r ih =>
        intro e t h1 h2 h
        rw [famL] at h
        split at h
        · have := ih (e + 1) t (by omega) h2 h
          rw [famL] at this ⊢
          simp only [Bool.or_eq_true, Bool.and_eq_true, decide_eq_true_eq] at this ⊢
          rcases this with h3 | h3
          · exact .inl h3
          · exact .inr ⟨by omega, h3.2⟩
        split at h
        · split at h
          · cases h
          · have := ih e (t + 1) h1 (by omega) h
            rw [famL] at this ⊢
            simp only [Bool.or_eq_true, Bool.and_eq_true, decide_eq_true_eq] at this ⊢
            rcases this with h3 | h3
            · exact .inl h3
            · exact .inr ⟨h3.1, by omega⟩
        split at h
        · split at h
          · cases h
          · exact ih e t h1 h2 h
        split at h
        · exact ih e t h1 h2 h
        · cases h
    exact key b e t h1 h2 h
  | k :: r, b, e, t, h1, h2, h => by
    rw [List.cons_append, famL] at h
    rw [famL]
    split
    · rename_i h3
      rw [if_pos h3] at h
      exact famL_pre d r b _ _ (by omega) h2 h
    rename_i h3
    rw [if_neg h3] at h
    split
    · rename_i h4
      rw [if_pos h4] at h
      split
      · rename_i h5
        rw [if_pos h5] at h; exact h
      · rename_i h5
        rw [if_neg h5] at h
        exact famL_pre d r b _ _ h1 (by omega) h
    rename_i h4
    rw [if_neg h4] at h
    split
    · rename_i h5
      rw [if_pos h5] at h
      split
      · rename_i h6
        rw [if_pos h6] at h; exact h
      · rename_i h6
        rw [if_neg h6] at h
        exact famL_pre d r b _ _ h1 h2 h
    rename_i h5
    rw [if_neg h5] at h
    split
    · rename_i h6
      rw [if_pos h6] at h
      exact famL_pre d r b _ _ h1 h2 h
    · rename_i h6
      rw [if_neg h6] at h; exact h
def kindsOf (f : List Node) (l : List Int) : List Int := l.map fun k => (nodeAt f k).kind
theorem famB_L (f : List Node) (n : Node) : famB f n = famL (dec (n.kind = 9)) (kindsOf f n.kids) 0 0 := famGo_L _ _ _ _ _
theorem kind_in {f : List Node} {k : Int} (h : (nodeAt f k).kind ≠ 0) : inR f k := by
  by_cases hk : inR f k
  · exact hk
  · rw [node_out hk] at h
    exact absurd rfl h
theorem inB_R {f : List Node} {k : Int} : inB f k = true ↔ inR f k := by
  simp only [inB, decide_eq_true_eq]; rfl
/-- What g keeps of f's nodes. -/
def Keeps (f g : List Node) : Prop := ∀ k, inR f k → inR g k ∧ (nodeAt g k).kind = (nodeAt f k).kind ∧ (nodeAt g k).doc = (nodeAt f k).doc ∧ (nodeAt g k).host = (nodeAt f k).host ∧ (nodeAt g k).shadow = (nodeAt f k).shadow
theorem l14_keep {f g : List Node} {h : Int} {n : Node} (H : Keeps f g) (h1 : l1 f h n) (h2 : l2 f h n) (h3 : l3 f h n) (h4 : l4 f h n) (hc : inR f n.parent → cntB (nodeAt g n.parent).kids h = cntB (nodeAt f n.parent).kids h) : l1 g h n ∧ l2 g h n ∧ l3 g h n ∧ l4 g h n := by
  refine ⟨?_, ?_, ?_, ?_⟩
  · rcases h1 with e | ⟨e1, e2⟩
    · exact .inl e
    · rw [inB_R] at e1
      exact .inr ⟨inB_R.2 (H _ e1).1, by rw [hc e1]; exact e2⟩
  · have hd := kind_in (show (nodeAt f n.doc).kind ≠ 0 by rw [h2.1]; decide)
    exact ⟨by rw [(H _ hd).2.1]; exact h2.1, h2.2⟩
  · rcases h3 with e | ⟨e1, e2, e3⟩
    · exact .inl e
    · rw [inB_R] at e1
      obtain ⟨a1, a2, a3, a4, a5⟩ := H _ e1
      exact .inr ⟨inB_R.2 a1, by rw [a2]; exact e2, by rw [a4]; exact e3⟩
  · intro e
    obtain ⟨e1, e2, e3, e4⟩ := h4 e
    rw [inB_R] at e1
    obtain ⟨a1, a2, a3, a4, a5⟩ := H _ e1
    exact ⟨inB_R.2 a1, by rw [a2]; exact e2, by rw [a5]; exact e3, by rw [a3]; exact e4⟩
theorem kinds_keep {f g : List Node} (H : Keeps f g) {l : List Int} (hl : ∀ k ∈ l, inR f k) : kindsOf g l = kindsOf f l := by
  unfold kindsOf
  rw [List.map_inj_left]
  exact fun k hk => (H k (hl k hk)).2.1
theorem kidsB_keep {f g : List Node} {h : Int} {n : Node} (H : Keeps f g) (hk : kidsB f h n = true) (hp : ∀ k ∈ n.kids, (nodeAt g k).parent = (nodeAt f k).parent) : kidsB g h n = true := by
  unfold kidsB at hk ⊢
  rw [Bool.and_eq_true] at hk ⊢
  obtain ⟨h1, h2⟩ := hk
  have hm := kidsGo_mem _ _ h1
  have hd := kidsGo_doc _ _ h1
  have hin : ∀ k ∈ n.kids, inR f k := fun k hk => inB_R.1 (hm k hk).1
  refine ⟨kidsGo_of _ _ (fun k hk => ⟨inB_R.2 (H k (hin k hk)).1, by rw [hp k hk]; exact (hm k hk).2, by rw [(H k (hin k hk)).2.2.1]; exact hd k hk, by simp⟩) (kidsGo_nodup _ _ h1).1, ?_⟩
  rw [famB_L] at h2 ⊢
  rw [kinds_keep H hin]
  exact h2
theorem upN_node {f : List Node} {k : Int} (hk : inR f k) : upN f k = aboveOf (nodeAt f k) := by
  rw [node_in hk]; rfl
/-- Above a node of a right forest is a node, or nothing. -/
theorem up_in {f : List Node} (hr : rightP f) {k : Int} (hk : inR f k) : upN f k = 0 ∨ inR f (upN f k) := by
  rw [upN_node hk]
  obtain ⟨_, ⟨h1, _, _, h4, _⟩, _⟩ := right_node hr hk
  unfold aboveOf
  split
  · rename_i h
    exact .inr (inB_R.1 (h4 h).1)
  · rcases h1 with h | h
    · exact .inl h
    · exact .inr (inB_R.1 h.1)
theorem not0 {g : List Node} : ¬ inR g 0 := fun h => by have := h.1; omega
theorem node_snoc (f : List Node) (m : Node) (k : Int) : nodeAt (f ++ [m]) k = if k = f.length + 1 then m else nodeAt f k := by
  by_cases h : inR (f ++ [m]) k
  · have h1 := h.1
    have h2 := h.2
    simp at h2
    rw [node_in h, atI_snoc _ _ _ (by omega)]
    by_cases e : k = f.length + 1
    · rw [if_pos (by omega), if_pos e]
    · rw [if_neg (by omega), if_neg e, node_in (f := f) ⟨h1, by omega⟩]
  · rw [node_out h]
    have e : k ≠ f.length + 1 := fun e => h ⟨by omega, by simp; omega⟩
    rw [if_neg e, node_out]
    exact fun h2 => h ⟨h2.1, by have := h2.2; simp; omega⟩
theorem right_make {f : List Node} {m : Node} (hr : rightP f) (hl : f.length < 4096) (hm : madeP m) (hk : m.kids = []) (hp : m.parent = 0) (hs : m.shadow = 0) (h12 : m.kind ≠ 12) (hd : m.kind = 9 ∧ m.doc = f.length + 1 ∨ m.kind ≠ 9 ∧ (nodeAt f m.doc).kind = 9) : rightP (f ++ [m]) := by
  have hkeep : ∀ k, inR f k → nodeAt (f ++ [m]) k = nodeAt f k := fun k hk => by
    have := hk.2
    rw [node_snoc, if_neg (by omega)]
  have H : Keeps f (f ++ [m]) := fun k hk => by
    rw [hkeep k hk]
    exact ⟨⟨hk.1, by have := hk.2; simp; omega⟩, rfl, rfl, rfl, rfl⟩
  have hlast : nodeAt (f ++ [m]) (f.length + 1) = m := by rw [node_snoc, if_pos rfl]
  have hgood : ∀ (n : Nat) (k : Int), (k = 0 ∨ inR f k) → ¬ inR f (itN f n k) → Good (f ++ [m]) k := by
    intro n
    induction n with
    | zero =>
      intro k hk hn
      rcases hk with rfl | hk
      · exact ⟨0, not0⟩
      · exact absurd hk hn
    | succ n ih =>
      intro k hk hn
      rcases hk with rfl | hk
      · exact ⟨0, not0⟩
      · have e : upN (f ++ [m]) k = upN f k := by rw [upN_node (H k hk).1, upN_node hk, hkeep k hk]
        rw [good_up (H k hk).1, e]
        exact ih _ (up_in hr hk) hn
  refine ⟨by simp; omega, fun i i0 i1 => ?_⟩
  simp at i1
  by_cases hi : i < f.length
  · have hin : inR f (i + 1) := ⟨by omega, by omega⟩
    obtain ⟨a1, ⟨b1, b2, b3, b4, b5⟩, ⟨n, hn⟩⟩ := right_node hr hin
    have e : atI (f ++ [m]) i = nodeAt f (i + 1) := by
      rw [← hkeep _ hin, node_in (H _ hin).1, show i + 1 - 1 = i by omega]
    unfold okP linksP
    rw [e]
    obtain ⟨c1, c2, c3, c4⟩ := l14_keep (g := f ++ [m]) H b1 b2 b3 b4 (fun h => by rw [hkeep _ h])
    refine ⟨a1, ⟨c1, c2, c3, c4, kidsB_keep H b5 fun k hk => ?_⟩, hgood n _ (.inr hin) hn⟩
    rw [hkeep k (right_kid hr hin hk).1]
  · have e : atI (f ++ [m]) i = m := by rw [atI_snoc _ _ _ i0, if_pos (by omega)]
    unfold okP linksP
    rw [e]
    refine ⟨hm, ⟨.inl hp, ?_, .inl hs, fun h => absurd h h12, ?_⟩, ?_⟩
    · rcases hd with ⟨d1, d2⟩ | ⟨d1, d2⟩
      · exact ⟨by rw [d2, hlast]; exact d1, fun _ => by omega⟩
      · have hin := kind_in (show (nodeAt f m.doc).kind ≠ 0 by rw [d2]; decide)
        exact ⟨by rw [hkeep _ hin]; exact d2, fun h => absurd h d1⟩
    · unfold kidsB
      rw [famB_L, hk]
      simp [kidsGo, kindsOf, famL]
    · rw [show i + 1 = (f.length : Int) + 1 by omega]
      have hin : inR (f ++ [m]) (f.length + 1) := ⟨by omega, by simp⟩
      rw [good_up hin, upN_node hin, hlast]
      unfold aboveOf
      rw [if_neg h12, hp]
      exact ⟨0, not0⟩
theorem node_ins {f : List Node} {x p : Int} (hx : inR f x) (hp : inR f p) (hne : x ≠ p) (k : Int) : nodeAt (insF f x p) k = if k = p then { nodeAt f p with kids := (nodeAt f p).kids ++ [x] } else if k = x then { nodeAt f x with parent := p } else nodeAt f k := by
  by_cases h : inR f k
  · have h1 := h.1
    have hg : inR (insF f x p) k := ⟨h.1, by rw [insF_len]; exact h.2⟩
    rw [node_in hg, atI_ins f x p hx hp hne _ (by omega), node_in hp, node_in hx, node_in h]
    by_cases e1 : k = p
    · rw [if_pos (by omega), if_pos e1]
    · rw [if_neg (by omega), if_neg e1]
      by_cases e2 : k = x
      · rw [if_pos (by omega), if_pos e2]
      · rw [if_neg (by omega), if_neg e2]
  · have hg : ¬ inR (insF f x p) k := fun h2 => h ⟨h2.1, by have := h2.2; rw [insF_len] at this; exact this⟩
    rw [node_out hg, if_neg (fun e : k = p => h (by rw [e]; exact hp)), if_neg (fun e : k = x => h (by rw [e]; exact hx)), node_out h]
theorem right_insert {f : List Node} {x p : Int} (hr : rightP f) (hx : inR f x) (hp : inR f p) (hne : x ≠ p) (x1 : (nodeAt f x).parent = 0) (x2 : (nodeAt f x).kids = []) (x3 : (nodeAt f x).shadow = 0) (x4 : (nodeAt f x).kind ≠ 9) (x5 : (nodeAt f x).kind ≠ 12) (x6 : (traitsOf (nodeAt f x).kind).hung = true) (hd : (nodeAt f x).doc = (nodeAt f p).doc) (hk : (traitsOf (nodeAt f p).kind).kids = true) (hfam : famL (dec ((nodeAt f p).kind = 9)) (kindsOf f (nodeAt f p).kids ++ [(nodeAt f x).kind]) 0 0 = true) : rightP (insF f x p) := by
  have hat := node_ins hx hp hne
  have hlen : (insF f x p).length = f.length := insF_len f x p
  have hgp : nodeAt (insF f x p) p = { nodeAt f p with kids := (nodeAt f p).kids ++ [x] } := by rw [hat, if_pos rfl]
  have hgx : nodeAt (insF f x p) x = { nodeAt f x with parent := p } := by rw [hat, if_neg hne, if_pos rfl]
  have hgk : ∀ k, k ≠ p → k ≠ x → nodeAt (insF f x p) k = nodeAt f k := fun k h1 h2 => by rw [hat, if_neg h1, if_neg h2]
  have hin : ∀ k, inR f k → inR (insF f x p) k := fun k h => ⟨h.1, by rw [hlen]; exact h.2⟩
  have H : Keeps f (insF f x p) := fun k h => by
    refine ⟨hin k h, ?_⟩
    by_cases e1 : k = p
    · rw [e1, hgp]; exact ⟨rfl, rfl, rfl, rfl⟩
    · by_cases e2 : k = x
      · rw [e2, hgx]; exact ⟨rfl, rfl, rfl, rfl⟩
      · rw [hgk k e1 e2]; exact ⟨rfl, rfl, rfl, rfl⟩
  have hpar : ∀ k, k ≠ x → (nodeAt (insF f x p) k).parent = (nodeAt f k).parent := fun k e2 => by
    by_cases e1 : k = p
    · rw [e1, hgp]
    · rw [hgk k e1 e2]
  have hkidx : ∀ a, inR f a → ∀ k ∈ (nodeAt f a).kids, k ≠ x := fun a ha k hk e => by
    have h1 := (kidsGo_mem _ _ (right_kidsB hr ha).1 k hk).2
    rw [e, x1] at h1
    have := ha.1
    omega
  have hcnt : ∀ q h, h ≠ x → cntB (nodeAt (insF f x p) q).kids h = cntB (nodeAt f q).kids h := fun q h hh => by
    by_cases e1 : q = p
    · rw [e1, hgp]
      show cntB ((nodeAt f p).kids ++ [x]) h = _
      rw [cnt_snoc, if_neg (fun e => hh e.symm)]
      rfl
    · by_cases e2 : q = x
      · rw [e2, hgx]
      · rw [hgk q e1 e2]
  have hnox : ∀ k, inR f k → upN f k ≠ x := fun k hk' e => by
    obtain ⟨_, ⟨h1, _, _, h4, _⟩, _⟩ := right_node hr hk'
    rw [upN_node hk'] at e
    have k1 := hk'.1
    unfold aboveOf at e
    split at e
    · rename_i h
      have := (h4 h).2.2.1
      rw [e, x3] at this
      omega
    · rcases h1 with h | ⟨_, h⟩
      · have := hx.1
        omega
      · rw [e, x2] at h
        simp [cntB] at h
  have hup : ∀ k, inR f k → k ≠ x → upN (insF f x p) k = upN f k := fun k hk' hkx => by
    rw [upN_node (hin k hk'), upN_node hk']
    unfold aboveOf
    rw [(H k hk').2.1, (H k hk').2.2.2.1, hpar k hkx]
  have hgood : ∀ (n : Nat) (k : Int), k ≠ x → (k = 0 ∨ inR f k) → ¬ inR f (itN f n k) → Good (insF f x p) k := by
    intro n
    induction n with
    | zero =>
      intro k _ hk hn
      rcases hk with rfl | hk
      · exact ⟨0, not0⟩
      · exact absurd hk hn
    | succ n ih =>
      intro k hkx hk hn
      rcases hk with rfl | hk
      · exact ⟨0, not0⟩
      · rw [good_up (hin k hk), hup k hk hkx]
        exact ih _ (hnox k hk) (up_in hr hk) hn
  have hG : ∀ k, inR f k → Good (insF f x p) k := fun k hk => by
    by_cases e : k = x
    · subst e
      obtain ⟨n, hn⟩ := (right_node hr hp).2.2
      rw [good_up (hin k hk), upN_node (hin k hk), hgx]
      unfold aboveOf
      rw [if_neg x5]
      exact hgood n p (fun e => hne e.symm) (.inr hp) hn
    · obtain ⟨n, hn⟩ := (right_node hr hk).2.2
      exact hgood n k e (.inr hk) hn
  refine ⟨by rw [hlen]; exact hr.1, fun i i0 i1 => ?_⟩
  rw [hlen] at i1
  have hi : inR f (i + 1) := ⟨by omega, by omega⟩
  have e : atI (insF f x p) i = nodeAt (insF f x p) (i + 1) := by rw [node_in (hin _ hi), show i + 1 - 1 = i by omega]
  obtain ⟨a1, ⟨b1, b2, b3, b4, b5⟩, _⟩ := right_node hr hi
  unfold okP linksP
  rw [e]
  refine ⟨?_, ?_, hG _ hi⟩
  · by_cases e1 : i + 1 = p
    · rw [e1] at a1 ⊢
      rw [hgp]
      obtain ⟨m1, m2, m3, m4, m5, m6⟩ := a1
      exact ⟨m1, m2, ⟨m3.1, m3.2.1, .inl hk⟩, m4, m5, m6⟩
    · by_cases e2 : i + 1 = x
      · rw [e2] at a1 ⊢
        rw [hgx]
        obtain ⟨m1, m2, m3, m4, m5, m6⟩ := a1
        exact ⟨m1, m2, m3, m4, .inl x6, m6⟩
      · rw [hgk _ e1 e2]; exact a1
  · by_cases e1 : i + 1 = p
    · rw [e1] at b1 b2 b3 b4 b5 ⊢
      rw [hgp]
      obtain ⟨c1, c2, c3, c4⟩ := l14_keep (g := insF f x p) H b1 b2 b3 b4 (fun _ => hcnt _ _ (fun e => hne e.symm))
      refine ⟨c1, c2, c3, c4, ?_⟩
      unfold kidsB at b5 ⊢
      rw [Bool.and_eq_true] at b5 ⊢
      have hm := kidsGo_mem _ _ b5.1
      have hdd := kidsGo_doc _ _ b5.1
      have hki : ∀ k ∈ (nodeAt f p).kids, inR f k := fun k hk => inB_R.1 (hm k hk).1
      refine ⟨kidsGo_of _ _ (fun k hk => ?_) ?_, ?_⟩
      · rcases List.mem_append.1 hk with hk | hk
        · exact ⟨inB_R.2 (hin k (hki k hk)), by rw [hpar k (hkidx p hp k hk)]; exact (hm k hk).2, by rw [(H k (hki k hk)).2.2.1]; exact hdd k hk, by simp⟩
        · rw [List.mem_singleton] at hk
          subst hk
          exact ⟨inB_R.2 (hin _ hx), by rw [hgx], by rw [hgx]; exact hd, by simp⟩
      · show ((nodeAt f p).kids ++ [x]).Nodup
        rw [List.nodup_append]
        refine ⟨(kidsGo_nodup _ _ b5.1).1, by simp, fun a ha b hb => ?_⟩
        rw [List.mem_singleton] at hb
        rw [hb]
        exact hkidx p hp a ha
      · rw [famB_L]
        show famL (dec ((nodeAt f p).kind = 9)) (kindsOf (insF f x p) ((nodeAt f p).kids ++ [x])) 0 0 = true
        have e3 : kindsOf (insF f x p) ((nodeAt f p).kids ++ [x]) = kindsOf f (nodeAt f p).kids ++ [(nodeAt f x).kind] := by
          rw [kinds_keep H (fun k hk => by
            rcases List.mem_append.1 hk with hk | hk
            · exact hki k hk
            · rw [List.mem_singleton] at hk
              rw [hk]; exact hx)]
          unfold kindsOf
          rw [List.map_append]
          rfl
        rw [e3]
        exact hfam
    · by_cases e2 : i + 1 = x
      · rw [e2] at b1 b2 b3 b4 b5 ⊢
        rw [hgx]
        refine ⟨.inr ⟨inB_R.2 (hin p hp), ?_⟩, ?_, .inl x3, fun h => absurd h x5, ?_⟩
        · show (cntB (nodeAt (insF f x p) p).kids x : Int) = 1
          rw [hgp]
          show (cntB ((nodeAt f p).kids ++ [x]) x : Int) = 1
          rw [cnt_snoc, if_pos rfl, nodup_cnt x (fun h => hkidx p hp x h rfl)]
          rfl
        · have hdi := kind_in (show (nodeAt f (nodeAt f x).doc).kind ≠ 0 by rw [b2.1]; decide)
          exact ⟨by show (nodeAt (insF f x p) (nodeAt f x).doc).kind = 9; rw [(H _ hdi).2.1]; exact b2.1, fun h => absurd h x4⟩
        · unfold kidsB
          rw [famB_L]
          show (kidsGo _ _ _ _ (nodeAt f x).kids && famL _ (kindsOf _ (nodeAt f x).kids) 0 0) = true
          rw [x2]
          simp [kidsGo, kindsOf, famL]
      · rw [hgk _ e1 e2]
        obtain ⟨c1, c2, c3, c4⟩ := l14_keep (g := insF f x p) H b1 b2 b3 b4 (fun _ => hcnt _ _ e2)
        exact ⟨c1, c2, c3, c4, kidsB_keep H b5 fun k hk => hpar k (hkidx _ hi k hk)⟩
end Go.Proofs.YtmhejcnaanocpaaGreat.A
namespace Go.Proofs.YtmhejcnaanocpaaGreat.A
set_option linter.unusedVariables false
set_option linter.unusedSimpArgs false
set_option maxRecDepth 100000
set_option maxHeartbeats 4000000
noncomputable def txt (f : List Node) (x : Int) : Bool := dec (textB (nodeAt f x).kind)
theorem cl59_c (f : List Node) (x : Int) (hl : f.length ≤ 1000000000) : GenC Tryz.prog 59 [⟨24, 1, [[.imm (.sl (f.map Node.iv))]]⟩] [iav x, .ptr 0 1 0 0] (bav (txt f x)) [⟨24, 1, [[.imm (.sl (f.map Node.iv))]]⟩] := by
  have c1 := treeAt_c f x hl
  have c2 := text_c (nodeAt f x).kind
  unfold txt
  refine GenC.mk tabs Tryz.func59 9 [.tmp 3] rfl rfl rfl rfl rfl ?_; intro w0 X γ κ
  (repeat' (first | ((with_reducible show AL _ _ _ _ _); first | (refine AL.step tabs rfl ?_; try dsimp only [len, List.nil_append, List.cons_append]) | refine AL.op rfl (OpOK.call rfl rfl rfl rfl c1 rfl) ?_ | refine AL.op rfl (OpOK.call rfl rfl rfl rfl c2 rfl) ?_ | refine AL.nil ?_) | refine AW.seq ?_ | refine AW.region ?_ | refine Then.norm ?_ | refine AW.skip ?_ | refine AW.ret ?_ | refine Then.ret ?_))
  exact RG.ret 1 rfl rfl rfl rfl rfl (by simp [cxG])
theorem txt0 (f : List Node) : txt f 0 = false := by
  unfold txt nodeAt
  rw [if_neg (by omega), dec_false]
  simp [textB, n0]
-- places among kids
theorem idxGo_at : ∀ (l : List Int) (k : Int) (j : Nat), l.Nodup → j < l.length → idxGo l (l.getD j default) k = k + j
  | [], _, _, _, h => by simp at h
  | y :: l, k, 0, _, _ => by simp [idxGo]
  | y :: l, k, j + 1, hn, h => by
    rw [List.nodup_cons] at hn
    have h' : j < l.length := by simpa using h
    have hm : l.getD j default ∈ l := by
      rw [List.getD_eq_getElem?_getD, List.getElem?_eq_getElem h']
      exact List.getElem_mem h'
    simp only [List.getD_cons_succ]
    unfold idxGo
    have hne : ¬ l.getD j default = y := fun e => hn.1 (e ▸ hm)
    rw [if_neg hne, idxGo_at l (k + 1) j hn.2 h']
    omega
theorem idx_at {l : List Int} (hn : l.Nodup) {j : Int} (h0 : 0 ≤ j) (h1 : j < l.length) : idx l (atI l j) = j := by
  have := idxGo_at l 0 j.toNat hn (by omega)
  unfold idx atI
  rw [this]
  omega
theorem mem_atI {l : List Int} {x : Int} (h : x ∈ l) : ∃ j : Int, 0 ≤ j ∧ j < l.length ∧ atI l j = x := by
  obtain ⟨j, hj, e⟩ := List.getElem_of_mem h
  refine ⟨j, by omega, by omega, ?_⟩
  unfold atI
  rw [Int.toNat_natCast, List.getD_eq_getElem?_getD, List.getElem?_eq_getElem hj]
  exact e
theorem right_mem {f : List Node} (hr : rightP f) {h : Int} (hh : inR f h) (hp : (nodeAt f h).parent ≠ 0) : inR f (nodeAt f h).parent ∧ h ∈ (nodeAt f (nodeAt f h).parent).kids := by
  have hl := (right_node hr hh).2.1.1
  rcases hl with h0 | ⟨h1, h2⟩
  · exact absurd h0 hp
  · refine ⟨inB_R.1 h1, ?_⟩
    have : 0 < cntB (nodeAt f (nodeAt f h).parent).kids h := by omega
    unfold cntB at this
    rw [List.countP_pos_iff] at this
    obtain ⟨a, ha, e⟩ := this
    have : a = h := by simpa using e
    exact this ▸ ha
theorem right_par {f : List Node} (hr : rightP f) {q k : Int} (hq : inR f q) (hk : k ∈ (nodeAt f q).kids) : inR f k ∧ (nodeAt f k).parent = q := by
  obtain ⟨h1, h2⟩ := kidsGo_mem _ _ (right_kidsB hr hq).1 k hk
  exact ⟨inB_R.1 h1, h2⟩
theorem right_dup {f : List Node} (hr : rightP f) {q : Int} (hq : inR f q) : (nodeAt f q).kids.Nodup := (kidsGo_nodup _ _ (right_kidsB hr hq).1).1
/-- the one b places on, or none. -/
def offI (l : List Int) (j : Int) : Int := if j < 0 ∨ (l.length : Int) ≤ j then 0 else atI l j
theorem beside_at {f : List Node} (hr : rightP f) {q : Int} (hq : inR f q) {j b : Int} (h0 : 0 ≤ j) (h1 : j < (nodeAt f q).kids.length) : besideP f (atI (nodeAt f q).kids j) b = offI (nodeAt f q).kids (j + b) := by
  have hm := right_par hr hq (atI_mem h0 h1)
  unfold besideP offI
  rw [hm.2, if_neg (by have := hq.1; omega), idx_at (right_dup hr hq) h0 h1]
/-- where the texts beside one another begin. -/
def leftN (t : Int → Bool) (l : List Int) : Nat → Nat
  | 0 => 0
  | j + 1 => if t (atI l j) = true then leftN t l j else j + 1
theorem leftN_le (t : Int → Bool) (l : List Int) : ∀ j, leftN t l j ≤ j
  | 0 => Nat.le_refl _
  | j + 1 => by
    unfold leftN
    split
    · exact Nat.le_succ_of_le (leftN_le t l j)
    · exact Nat.le_refl _
def runGo (f : List Node) (t : Int → Bool) : List Int → List Int
  | [] => []
  | x :: r => if t x = true then (nodeAt f x).data ++ runGo f t r else []
noncomputable def wholeP (f : List Node) (h : Int) : List Int :=
  if (nodeAt f h).parent = 0 then (nodeAt f h).data else
    runGo f (txt f) ((nodeAt f (nodeAt f h).parent).kids.drop (leftN (txt f) (nodeAt f (nodeAt f h).parent).kids (idx (nodeAt f (nodeAt f h).parent).kids h).toNat))
theorem cf_right {f : List Node} {h : Int} {b : Bool} (he : cfP f h b = 0) : rightP f ∧ inR f h ∧ (b = true → textB (nodeAt f h).kind) ∧ dataB (nodeAt f h).kind := by
  unfold cfP at he
  split at he
  · rename_i h1; exact absurd he h1
  · rename_i h1
    have h1 : faultR f [h] = 0 := by simpa using h1
    unfold faultR at h1
    split at h1
    · rename_i hr
      rw [dec_true] at hr
      split at h1
      · rename_i hi
        split at he
        · cases he
        · rename_i h2
          refine ⟨hr, inB_R.1 (by simpa using hi), fun hb => ?_, ?_⟩
          · apply Classical.byContradiction
            intro h3
            exact h2 (.inr ⟨hb, by rw [dec_false]; exact h3⟩)
          · apply Classical.byContradiction
            intro h3
            exact h2 (.inl (by rw [dec_false]; exact h3))
      · cases h1
    · cases h1
theorem wholeNo_c (f : List Node) (h : Int) (hf : Fit f) (he : cfP f h true ≠ 0) : PureC Tryz.prog 18 [fav f, iav h] (.tup [.imm (.sl []), iav (cfP f h true)]) := by
  have c1 := cfault_c f h true hf
  obtain ⟨w, hw⟩ : ∃ w, w = cfP f h true := ⟨_, rfl⟩
  rw [← hw] at c1 he ⊢
  refine PureC.mk tabs Tryz.func18 49 [.tmp 4, .tmp 5] rfl rfl rfl rfl rfl ?_; intro w0 X
  (repeat' (first | ((with_reducible show AL _ _ _ _ _); first | (refine AL.step tabs rfl ?_; try dsimp only [len, List.nil_append, List.cons_append]) | refine AL.op rfl (OpOK.call rfl rfl rfl rfl c1 rfl) ?_ | refine AL.nil ?_) | refine AW.seq ?_ | refine AW.region ?_ | refine Then.norm ?_ | refine AW.skip ?_ | refine AW.block ?_ | refine InB.norm ?_ | refine AW.condT rfl ?_ | refine AW.condF rfl ?_ | (refine AW.cond rfl (fun hc => ?_) (fun hc => ?_) <;> (try simp only [hsx] at hc) <;> (try first | (exfalso; omega) | contradiction | (exfalso; simp [dec_eq] at hc; done))) | refine AW.ret ?_ | refine AW.exit ?_ | refine Then.ret ?_ | refine Then.exit ?_ | refine InB.ret ?_ | refine InB.here ?_ | refine InB.off rfl ?_ | refine Rnd.ret ?_ | refine Rnd.exit ?_))
  all_goals first
    | (exfalso; exact he hc)
    | exact RQ.fin rfl rfl rfl
theorem srcU {C : Cx} {s : St} {tx : TypeId} {y : Operand} (hT : TsOK C.P tab) {i : TI} (hi : look tab tx = some i) {e : TypeId} (hk : i.kd = .sl e) (d : List Int) (hy : s.ev y = some (.imm (.sl (d.map u16)))) : SrcA C s ti55 tx y (d.map cU) := by
  have := SrcA.imm (ie := ti55) hT hi hk hy (u16_len d)
  rw [List.map_map] at this
  exact this
theorem whole0_c (f : List Node) (h : Int) (hf : Fit f) (he : cfP f h true = 0) (hp : (nodeAt f h).parent = 0) : PureC Tryz.prog 18 [fav f, iav h] (.tup [.imm (.sl ((nodeAt f h).data.map u16)), iav 0]) := by
  have hl := hf.len
  obtain ⟨hr, hin, ht, _⟩ := cf_right he
  have c1 := cfault_c f h true hf
  rw [he] at c1
  have c2 := beside_c f h (-1) hf (by omega) (by omega)
  rw [show besideP f h (-1) = 0 by unfold besideP; rw [if_pos hp]] at c2
  have c3 := treeAt_c f h hl
  have d0 := cl59_c f 0 hl
  rw [txt0] at d0
  have d1 := cl59_c f h hl
  rw [show txt f h = true by unfold txt; rw [dec_true]; exact ht rfl] at d1
  obtain ⟨n, hn⟩ : ∃ n, n = nodeAt f h := ⟨_, rfl⟩
  have hdl := (hf.at h).data
  rw [← hn] at c3 hp hdl ⊢
  refine PureC.mk tabs Tryz.func18 49 [.tmp 4, .tmp 5] rfl rfl rfl rfl rfl ?_; intro w0 X
  (repeat' (first | ((with_reducible show AL _ _ _ _ _); first | (refine AL.step tabs rfl ?_; try dsimp only [len, List.nil_append, List.cons_append]) | refine AL.op rfl (OpOK.call rfl rfl rfl rfl c1 rfl) ?_ | refine AL.op rfl (OpOK.call rfl rfl rfl rfl c2 rfl) ?_ | refine AL.nil ?_) | refine AW.seq ?_ | refine AW.region ?_ | refine Then.norm ?_ | refine AW.skip ?_ | refine AW.block ?_ | refine InB.norm ?_ | refine AW.condT rfl ?_ | refine AW.condF rfl ?_ | (refine AW.cond rfl (fun hc => ?_) (fun hc => ?_) <;> (try simp only [hsx] at hc) <;> (try first | (exfalso; omega) | contradiction | (exfalso; simp [dec_eq] at hc; done))) | refine AW.ret ?_ | refine AW.exit ?_ | refine Then.ret ?_ | refine Then.exit ?_ | refine InB.ret ?_ | refine InB.here ?_ | refine InB.off rfl ?_ | refine Rnd.ret ?_ | refine Rnd.exit ?_))
  refine AW.loop (α := Unit) (fun _ => ⟨[(2, .ptr 0 1 0 0), (7, .fn 59 [.ptr 0 1 0 0]), (8, iav h), (9, iav 0)], [⟨24, 1, [[.imm (.sl (f.map Node.iv))]]⟩]⟩) (fun _ => True) (fun _ => 0) () (Le.cut 1 rfl (by repeat' (first | exact trivial | refine ⟨rfl, ?_⟩)) rfl rfl (Nat.zero_le _)) trivial ?_
  intro _ _
  (repeat' (first | ((with_reducible show AL _ _ _ _ _); first | (refine AL.step tabs rfl ?_; try dsimp only [len, List.nil_append, List.cons_append]) | refine AL.callG [0] 1 rfl rfl rfl rfl (caps := [.ptr 0 1 0 0]) rfl rfl d0 rfl rfl rfl rfl rfl rfl rfl rfl (hpA := [⟨24, 1, [[.imm (.sl (f.map Node.iv))]]⟩]) rfl (r' := bav false) rfl rfl ?_; try dsimp only [setAll, List.drop_succ_cons, List.drop_zero, List.drop_nil, List.set_cons_succ, List.set_cons_zero, List.cons_append, List.nil_append, List.append_nil, len, Nat.reduceAdd] | refine AL.nil ?_) | refine AW.seq ?_ | refine AW.region ?_ | refine Then.norm ?_ | refine AW.skip ?_ | refine AW.block ?_ | refine InB.norm ?_ | refine AW.condT rfl ?_ | refine AW.condF rfl ?_ | (refine AW.cond rfl (fun hc => ?_) (fun hc => ?_) <;> (try simp only [hsx] at hc) <;> (try first | (exfalso; omega) | contradiction | (exfalso; simp [dec_eq] at hc; done))) | refine AW.ret ?_ | refine AW.exit ?_ | refine Then.ret ?_ | refine Then.exit ?_ | refine InB.ret ?_ | refine InB.here ?_ | refine InB.off rfl ?_ | refine Rnd.ret ?_ | refine Rnd.exit ?_))
  refine AW.weak (Le.fresh 10 55 1 rfl rfl) ?_
  refine AW.loop (α := Unit) (fun _ => ⟨[(2, .ptr 0 1 0 0), (7, .fn 59 [.ptr 0 1 0 0]), (10, .os 1 0), (11, iav h)], [⟨24, 1, [[.imm (.sl (f.map Node.iv))]]⟩, ⟨55, 1, []⟩]⟩) (fun _ => True) (fun _ => 0) () (Le.cut 2 rfl (by repeat' (first | exact trivial | refine ⟨rfl, ?_⟩)) rfl rfl (Nat.zero_le _)) trivial ?_
  intro _ _
  (repeat' (first | ((with_reducible show AL _ _ _ _ _); first | (refine AL.step tabs rfl ?_; try dsimp only [len, List.nil_append, List.cons_append]) | refine AL.callG [0] 2 rfl rfl rfl rfl (caps := [.ptr 0 1 0 0]) rfl rfl d1 rfl rfl rfl rfl rfl rfl rfl rfl (hpA := [⟨24, 1, [[.imm (.sl (f.map Node.iv))]]⟩]) rfl (r' := bav true) rfl rfl ?_; try dsimp only [setAll, List.drop_succ_cons, List.drop_zero, List.drop_nil, List.set_cons_succ, List.set_cons_zero, List.cons_append, List.nil_append, List.append_nil, len, Nat.reduceAdd] | refine AL.op rfl (OpOK.call rfl rfl rfl rfl c3 rfl) ?_ | refine AL.ope rfl (OpOK.append_m (ie := ti55) (xs := []) (ys := n.data) (g := cU) (ty := 55) (sz := 1) tabs rfl rfl rfl rfl rfl rfl rfl rfl rfl rfl (srcU tabs rfl rfl n.data rfl) (by simp [ti55]; omega) (by simp; omega)) rfl ?_ | refine AL.nil ?_) | (exfalso; omega) | refine AW.seq ?_ | refine AW.region ?_ | refine Then.norm ?_ | refine AW.skip ?_ | refine AW.block ?_ | refine InB.norm ?_ | refine AW.condT rfl ?_ | refine AW.condF rfl ?_ | (refine AW.cond rfl (fun hc => ?_) (fun hc => ?_) <;> (try simp only [hsx] at hc) <;> (try first | (exfalso; omega) | contradiction | (exfalso; simp [dec_eq] at hc; done))) | refine AW.ret ?_ | refine AW.exit ?_ | refine Then.ret ?_ | refine Then.exit ?_ | refine InB.ret ?_ | refine InB.here ?_ | refine InB.off rfl ?_ | refine Rnd.ret ?_ | refine Rnd.exit ?_))
  all_goals first
    | exact RQ.ret rfl (Fz.tup (.cons (Fz.os (b := ⟨55, 1, n.data.map cU⟩) (rows := n.data.map u16) rfl (List.length_map _).symm (by rw [List.map_map]; rfl)) (.cons (Fz.im rfl) .nil)))
theorem cU_sc (l : List Int) (k : Nat) : (l.map cU).all (fun r => r.all (AV.sc1 k)) = true := by
  rw [List.all_map, List.all_eq_true]
  exact fun n _ => rfl
theorem runGo_next (f : List Node) (t : Int → Bool) (l : List Int) {k : Int} (h0 : 0 ≤ k) (h1 : k < l.length) : runGo f t (l.drop k.toNat) = if t (atI l k) = true then (nodeAt f (atI l k)).data ++ runGo f t (l.drop (k + 1).toNat) else [] := by
  rw [drop_next h0 h1]
  rfl
theorem whole1_c (f : List Node) (h : Int) (hf : Fit f) (he : cfP f h true = 0) (hp : (nodeAt f h).parent ≠ 0) : PureC Tryz.prog 18 [fav f, iav h] (.tup [.imm (.sl ((wholeP f h).map u16)), iav 0]) := by
  have hl := hf.len
  obtain ⟨hr, hin, ht, _⟩ := cf_right he
  have c1 := cfault_c f h true hf
  rw [he] at c1
  obtain ⟨hq, hm⟩ := right_mem hr hin hp
  obtain ⟨w, hw⟩ : ∃ w, w = wholeP f h := ⟨_, rfl⟩
  have hwE : wholeP f h = runGo f (txt f) ((nodeAt f (nodeAt f h).parent).kids.drop (leftN (txt f) (nodeAt f (nodeAt f h).parent).kids (idx (nodeAt f (nodeAt f h).parent).kids h).toNat)) := by unfold wholeP; rw [if_neg hp]
  rw [← hw] at hwE ⊢
  obtain ⟨q, hqe⟩ : ∃ q, q = (nodeAt f h).parent := ⟨_, rfl⟩
  rw [← hqe] at hq hm hp hwE
  have hat := @beside_at f hr q hq
  have hpar : ∀ j : Int, 0 ≤ j → j < (nodeAt f q).kids.length → (nodeAt f (atI (nodeAt f q).kids j)).parent = q := fun j j0 j1 => (right_par hr hq (atI_mem j0 j1)).2
  have hfew := right_few hr q
  have hnd := right_dup hr hq
  obtain ⟨l, hle⟩ : ∃ l, l = (nodeAt f q).kids := ⟨_, rfl⟩
  rw [← hle] at hat hpar hfew hnd hm hwE
  obtain ⟨i, i0, i1, hi⟩ := mem_atI hm
  rw [← hi, idx_at hnd i0 i1] at hwE
  have c2 := beside_c f h (-1) hf (by omega) (by omega)
  rw [← hi, hat (b := -1) i0 i1, hi] at c2
  refine PureC.mk tabs Tryz.func18 49 [.tmp 4, .tmp 5] rfl rfl rfl rfl rfl ?_; intro w0 X
  (repeat' (first | ((with_reducible show AL _ _ _ _ _); first | (refine AL.step tabs rfl ?_; try dsimp only [len, List.nil_append, List.cons_append]) | refine AL.op rfl (OpOK.call rfl rfl rfl rfl c1 rfl) ?_ | refine AL.op rfl (OpOK.call rfl rfl rfl rfl c2 rfl) ?_ | refine AL.nil ?_) | refine AW.seq ?_ | refine AW.region ?_ | refine Then.norm ?_ | refine AW.skip ?_ | refine AW.block ?_ | refine InB.norm ?_ | refine AW.condT rfl ?_ | refine AW.condF rfl ?_ | (refine AW.cond rfl (fun hc => ?_) (fun hc => ?_) <;> (try simp only [hsx] at hc) <;> (try first | (exfalso; omega) | contradiction | (exfalso; simp [dec_eq] at hc; done))) | refine AW.ret ?_ | refine AW.exit ?_ | refine Then.ret ?_ | refine Then.exit ?_ | refine InB.ret ?_ | refine InB.here ?_ | refine InB.off rfl ?_ | refine Rnd.ret ?_ | refine Rnd.exit ?_))
  refine AW.loop (α := Int) (fun j => ⟨[(2, .ptr 0 1 0 0), (7, .fn 59 [.ptr 0 1 0 0]), (8, iav (atI l j)), (9, iav (offI l (j + -1)))], [⟨24, 1, [[.imm (.sl (f.map Node.iv))]]⟩]⟩) (fun j => 0 ≤ j ∧ j ≤ i ∧ leftN (txt f) l j.toNat = leftN (txt f) l i.toNat) (fun j => j.toNat) i (Le.cut 1 rfl ⟨rfl, rfl, by rw [hi]; rfl, rfl, trivial⟩ rfl rfl (Nat.zero_le _)) ⟨i0, Int.le_refl _, rfl⟩ ?_
  rintro j ⟨j0, j1, hj⟩
  have d0 := cl59_c f (offI l (j + -1)) hl
  obtain ⟨b, hb⟩ : ∃ b, b = txt f (offI l (j + -1)) := ⟨_, rfl⟩
  rw [← hb] at d0
  have c3 := beside_c f (offI l (j + -1)) (-1) hf (by omega) (by omega)
  (repeat' (first | ((with_reducible show AL _ _ _ _ _); first | (refine AL.step tabs rfl ?_; try dsimp only [len, List.nil_append, List.cons_append]) | refine AL.callG [0] 1 rfl rfl rfl rfl (caps := [.ptr 0 1 0 0]) rfl rfl d0 rfl rfl rfl rfl rfl rfl rfl rfl (hpA := [⟨24, 1, [[.imm (.sl (f.map Node.iv))]]⟩]) rfl (r' := bav b) rfl rfl ?_; try dsimp only [setAll, List.drop_succ_cons, List.drop_zero, List.drop_nil, List.set_cons_succ, List.set_cons_zero, List.cons_append, List.nil_append, List.append_nil, len, Nat.reduceAdd] | refine AL.op rfl (OpOK.call rfl rfl rfl rfl c3 rfl) ?_ | refine AL.nil ?_) | refine AW.seq ?_ | refine AW.region ?_ | refine Then.norm ?_ | refine AW.skip ?_ | refine AW.block ?_ | refine InB.norm ?_ | refine AW.condT rfl ?_ | refine AW.condF rfl ?_ | (refine AW.cond rfl (fun hc => ?_) (fun hc => ?_) <;> (try simp only [hsx] at hc) <;> (try first | (exfalso; omega) | contradiction | (exfalso; simp [dec_eq] at hc; done))) | refine AW.ret ?_ | refine AW.exit ?_ | refine Then.ret ?_ | refine Then.exit ?_ | refine InB.ret ?_ | refine InB.here ?_ | refine InB.off rfl ?_ | refine Rnd.ret ?_ | refine Rnd.exit ?_))
  · have hj0 : 0 ≤ j - 1 := by
      apply Classical.byContradiction
      intro h'
      rw [show offI l (j + -1) = 0 by unfold offI; rw [if_pos (by omega)], txt0, hc] at hb
      cases hb
    have e1 : offI l (j + -1) = atI l (j - 1) := by unfold offI; rw [if_neg (by omega)]; rfl
    have e2 : besideP f (offI l (j + -1)) (-1) = offI l (j - 1 + -1) := by rw [e1]; exact hat hj0 (by omega)
    refine Rnd.norm (j - 1) (Le.cut 1 rfl ⟨rfl, rfl, by rw [← e1]; rfl, by rw [← e2]; rfl, trivial⟩ rfl rfl (Nat.zero_le _)) ⟨hj0, by omega, ?_⟩ (by omega)
    rw [← hj, show j.toNat = (j - 1).toNat + 1 by omega]
    rw [leftN, if_pos (by rw [show (((j - 1).toNat : Nat) : Int) = j - 1 by omega, ← e1, ← hb]; exact hc)]
  · have hlj : leftN (txt f) l j.toNat = j.toNat := by
      by_cases hj0 : j = 0
      · subst hj0; rfl
      · rw [show j.toNat = (j - 1).toNat + 1 by omega]
        rw [leftN, if_neg ?_]
        rw [show (((j - 1).toNat : Nat) : Int) = j - 1 by omega]
        have e1 : offI l (j + -1) = atI l (j - 1) := by unfold offI; rw [if_neg (by omega)]; rfl
        rw [← e1, ← hb, hc]
        exact Bool.false_ne_true
    refine AW.weak (Le.fresh 10 55 1 rfl rfl) ?_
    refine AW.loop (α := Int × List Int) (fun x => ⟨[(2, .ptr 0 1 0 0), (7, .fn 59 [.ptr 0 1 0 0]), (10, .os 1 x.2.length), (11, iav (offI l x.1))], [⟨24, 1, [[.imm (.sl (f.map Node.iv))]]⟩, ⟨55, 1, x.2.map cU⟩]⟩) (fun x => 0 ≤ x.1 ∧ x.1 ≤ l.length ∧ x.2 ++ runGo f (txt f) (l.drop x.1.toNat) = w ∧ (x.2.length : Int) ≤ x.1 * 1000000000) (fun x => (l.length - x.1).toNat) (j, []) (Le.cut 2 rfl ⟨rfl, rfl, rfl, by rw [show offI l j = atI l j by unfold offI; rw [if_neg (by omega)]]; rfl, trivial⟩ rfl rfl (Nat.zero_le _)) ⟨by simp only; omega, by simp only; omega, by rw [List.nil_append, hwE, ← hj, hlj], by simp only [List.length_nil]; omega⟩ ?_
    rintro ⟨k, acc⟩ ⟨k0, k1, hk, hka⟩
    simp only at k0 k1 hk hka
    by_cases hb2 : txt f (offI l k) = true
    · have hk1 : k < l.length := by
        apply Classical.byContradiction
        intro h'
        rw [show offI l k = 0 by unfold offI; rw [if_pos (by omega)], txt0] at hb2
        cases hb2
      have e1 : offI l k = atI l k := by unfold offI; rw [if_neg (by omega)]
      have d1 := cl59_c f (offI l k) hl
      rw [hb2] at d1
      have c4 := treeAt_c f (offI l k) hl
      have c5 := beside_c f (offI l k) 1 hf (by omega) (by omega)
      rw [e1] at c4 c5 d1
      rw [hat (b := 1) k0 hk1] at c5
      have hpk := hpar k k0 hk1
      have hdl := (hf.at (atI l k)).data
      rw [runGo_next f (txt f) l k0 hk1, if_pos (by rw [← e1]; exact hb2), ← List.append_assoc] at hk
      obtain ⟨n, hn⟩ : ∃ n, n = nodeAt f (atI l k) := ⟨_, rfl⟩
      rw [← hn] at c4 hpk hdl hk
      have hacc : acc.length + n.data.length ≤ 10000000000000 := by omega
      simp only [e1]
      (repeat' (first | ((with_reducible show AL _ _ _ _ _); first | (refine AL.step tabs rfl ?_; try dsimp only [len, List.nil_append, List.cons_append]) | refine AL.callG [0] 2 rfl rfl rfl rfl (caps := [.ptr 0 1 0 0]) rfl rfl d1 rfl rfl rfl rfl rfl rfl rfl rfl (hpA := [⟨24, 1, [[.imm (.sl (f.map Node.iv))]]⟩]) rfl (r' := bav true) rfl rfl ?_; try dsimp only [setAll, List.drop_succ_cons, List.drop_zero, List.drop_nil, List.set_cons_succ, List.set_cons_zero, List.cons_append, List.nil_append, List.append_nil, len, Nat.reduceAdd] | refine AL.op rfl (OpOK.call rfl rfl rfl rfl c4 rfl) ?_ | refine AL.op rfl (OpOK.call rfl rfl rfl rfl c5 rfl) ?_ | refine AL.ope rfl (OpOK.append_m (ie := ti55) (xs := acc) (ys := n.data) (g := cU) (ty := 55) (sz := 1) tabs rfl rfl rfl rfl rfl rfl rfl rfl rfl rfl (srcU tabs rfl rfl n.data rfl) (by simp only [ti55]; omega) (by omega)) rfl ?_ | refine AL.nil ?_) | (exfalso; omega) | refine AW.seq ?_ | refine AW.region ?_ | refine Then.norm ?_ | refine AW.skip ?_ | refine AW.block ?_ | refine InB.norm ?_ | refine AW.condT rfl ?_ | refine AW.condF rfl ?_ | (refine AW.cond rfl (fun hc => ?_) (fun hc => ?_) <;> (try simp only [hsx] at hc) <;> (try first | (exfalso; omega) | contradiction | (exfalso; simp [dec_eq] at hc; done))) | refine AW.ret ?_ | refine AW.exit ?_ | refine Then.ret ?_ | refine Then.exit ?_ | refine InB.ret ?_ | refine InB.here ?_ | refine InB.off rfl ?_ | refine Rnd.ret ?_ | refine Rnd.exit ?_))
      refine Rnd.norm (k + 1, acc ++ n.data) ?_ ?_ ?_
      · exact Le.cut 2 rfl (by repeat' (first | exact trivial | refine ⟨rfl, ?_⟩)) rfl (by simp only [List.all_cons, List.all_nil, Bool.and_true, Bool.and_eq_true]; exact ⟨rfl, cU_sc _ _⟩) (Nat.zero_le _)
      · refine ⟨?_, ?_, hk, ?_⟩
        · show (0 : Int) ≤ k + 1; omega
        · show k + 1 ≤ (l.length : Int); omega
        · simp only [List.length_append]; omega
      · show (l.length - (k + 1) : Int).toNat < (l.length - k : Int).toNat; omega
    · have hb3 : txt f (offI l k) = false := by simpa using hb2
      have d1 := cl59_c f (offI l k) hl
      rw [hb3] at d1
      have ek : acc = w := by
        rw [← hk]
        by_cases hk1 : k < l.length
        · have e1 : offI l k = atI l k := by unfold offI; rw [if_neg (by omega)]
          rw [runGo_next f (txt f) l k0 hk1, if_neg (by rw [← e1]; exact hb2), List.append_nil]
        · rw [List.drop_eq_nil_of_le (by omega)]; simp [runGo]
      subst ek
      (repeat' (first | ((with_reducible show AL _ _ _ _ _); first | (refine AL.step tabs rfl ?_; try dsimp only [len, List.nil_append, List.cons_append]) | refine AL.callG [0] 2 rfl rfl rfl rfl (caps := [.ptr 0 1 0 0]) rfl rfl d1 rfl rfl rfl rfl rfl rfl rfl rfl (hpA := [⟨24, 1, [[.imm (.sl (f.map Node.iv))]]⟩]) rfl (r' := bav false) rfl rfl ?_; try dsimp only [setAll, List.drop_succ_cons, List.drop_zero, List.drop_nil, List.set_cons_succ, List.set_cons_zero, List.cons_append, List.nil_append, List.append_nil, len, Nat.reduceAdd] | refine AL.nil ?_) | refine AW.seq ?_ | refine AW.region ?_ | refine Then.norm ?_ | refine AW.skip ?_ | refine AW.block ?_ | refine InB.norm ?_ | refine AW.condT rfl ?_ | refine AW.condF rfl ?_ | (refine AW.cond rfl (fun hc => ?_) (fun hc => ?_) <;> (try simp only [hsx] at hc) <;> (try first | (exfalso; omega) | contradiction | (exfalso; simp [dec_eq] at hc; done))) | refine AW.ret ?_ | refine AW.exit ?_ | refine Then.ret ?_ | refine Then.exit ?_ | refine InB.ret ?_ | refine InB.here ?_ | refine InB.off rfl ?_ | refine Rnd.ret ?_ | refine Rnd.exit ?_))
      exact RQ.ret rfl (Fz.tup (.cons (Fz.os (b := ⟨55, 1, acc.map cU⟩) (rows := acc.map u16) rfl (List.length_map _).symm (by rw [List.map_map]; rfl)) (.cons (Fz.im rfl) .nil)))
end Go.Proofs.YtmhejcnaanocpaaGreat.A
