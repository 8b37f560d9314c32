/- Plain words about right forests: nodes, kids; what is made and put in at the end leaves a right forest right. -/
import Derived.Test.YtmhejcnaanocpaaGreatXAskGrpAT
import Derived.Test.YtmhejcnaanocpaaGreatXAskGrpAU
import Derived.Test.YtmhejcnaanocpaaGreatXAskGrpAR
import Derived.Test.YtmhejcnaanocpaaGreatProg
namespace Go.Proofs.YtmhejcnaanocpaaGreat.A
set_option linter.unusedVariables false
set_option linter.unusedSimpArgs false
set_option maxRecDepth 100000
set_option maxHeartbeats 4000000
theorem qdk {α : Type} [DecidableEq α] : ∀ {l m : List α}, l.Nodup → (∀ x ∈ l, x ∈ m) → l.length ≤ m.length
  | [], m, _, _ => Nat.zero_le _
  | x :: r, m, hn, hs => by
    have hx := hs x (by simp)
    rw [List.nodup_cons] at hn
    have := qdk (l := r) (m := m.erase x) hn.2 fun y hy => by
      have hne : y ≠ x := fun e => hn.1 (e ▸ hy)
      exact (List.mem_erase_of_ne hne).2 (hs y (by simp [hy]))
    have hl := List.length_erase_of_mem hx
    have : 0 < m.length := List.length_pos_of_mem hx
    simp only [List.length_cons]
    omega
section
variable {f : List Node}
theorem qag (hr : rightP f) {a : Int} (ha : inR f a) : madeP (nodeAt f a) ∧ linksP f a (nodeAt f a) ∧ Good f a := by
  have h := hr.2 (a - 1) (by have := ha.1; omega) (by have := ha.2; omega)
  unfold okP at h
  rw [show a - 1 + 1 = a by omega] at h
  have e : nodeAt f a = atI f (a - 1) := by unfold nodeAt; rw [if_pos (show 1 ≤ a ∧ a ≤ (f.length : Int) from ha)]
  rw [e]
  exact h
theorem qa2 {a : Int} (ha : ¬ inR f a) : nodeAt f a = n0 := by unfold nodeAt; rw [if_neg (show ¬ (1 ≤ a ∧ a ≤ (f.length : Int)) from ha)]
theorem qc8 {h doc : Int} : ∀ (l seen : List Int), kidsGo f h doc seen l = true → ∀ k ∈ l, inB f k = true ∧ (nodeAt f k).parent = h
  | [], _, _, k, hk => by cases hk
  | x :: r, seen, hg, k, hk => by
    rw [kidsGo] at hg
    split at hg
    · cases hg
    rename_i h1
    split at hg
    · cases hg
    split at hg
    · cases hg
    rename_i h3
    split at hg
    · cases hg
    rcases List.mem_cons.1 hk with rfl | hk
    · refine ⟨by simpa using h1, ?_⟩
      rw [qg, Decidable.not_not] at h3
      exact h3
    · exact qc8 r _ hg k hk
theorem qcb {K : Int → Int} {d : Bool} : ∀ (l : List Int) (e t : Int), famGo K d l e t = true → ∀ k ∈ l, K k ≠ 12
  | [], _, _, _, k, hk => by cases hk
  | x :: r, e, t, hg, k, hk => by
    rw [famGo] at hg
    rcases List.mem_cons.1 hk with rfl | hk
    · intro h12
      rw [h12] at hg
      simp at hg
    · split at hg
      · exact qcb r _ _ hg k hk
      split at hg
      · split at hg
        · cases hg
        · exact qcb r _ _ hg k hk
      split at hg
      · split at hg
        · cases hg
        · exact qcb r _ _ hg k hk
      split at hg
      · exact qcb r _ _ hg k hk
      · cases hg
theorem qas (hr : rightP f) {a k : Int} (ha : inR f a) (hk : k ∈ (nodeAt f a).kids) : inR f k ∧ upN f k = a := by
  obtain ⟨_, hl, _⟩ := qag hr ha
  have hkb := hl.2.2.2.2
  unfold kidsB at hkb
  simp only [Bool.and_eq_true] at hkb
  obtain ⟨h1, h2⟩ := qc8 _ _ hkb.1 k hk
  have h12 := qcb _ _ _ hkb.2 k hk
  have hin : inR f k := by simpa [inB, inR] using h1
  refine ⟨hin, ?_⟩
  have e : nodeAt f k = atI f (k - 1) := by unfold nodeAt; rw [if_pos (show 1 ≤ k ∧ k ≤ (f.length : Int) from hin)]
  unfold upN aboveOf
  rw [← e, if_neg h12]
  exact h2
theorem qjw (hr : rightP f) (P : Int → Prop) (step : ∀ a, (∀ k ∈ (nodeAt f a).kids, P k) → P a) : ∀ a, P a := by
  have key : ∀ (m : Nat) (a : Int) (l : List Int), l.length + m = f.length + 1 → l.Nodup → (∀ b ∈ l, inR f b ∧ (b = a ∨ Reach f a b)) → a ∈ l → P a := by
    intro m
    induction m with
    | zero =>
      intro a l hl hn hin _
      exfalso
      have := qdk (l := l) (m := (List.range f.length).map fun j : Nat => (j : Int) + 1) hn fun x hx => by
        have hx := (hin x hx).1
        have h1 := hx.1
        have h2 := hx.2
        exact List.mem_map.2 ⟨(x - 1).toNat, List.mem_range.2 (by omega), by omega⟩
      simp at this
      omega
    | succ m ih =>
      intro a l hl hn hin ha
      refine step a fun k hk => ?_
      have hina := (hin a ha).1
      obtain ⟨hink, hup⟩ := qas hr hina hk
      have hg := (qag hr hink).2.2
      have hrk : ∀ b ∈ l, Reach f k b := by
        intro b hb
        have h1 : Reach f k a := hup ▸ qd2 hink
        rcases (hin b hb).2 with rfl | h
        · exact h1
        · obtain ⟨i, i1, i2, i3⟩ := h1
          obtain ⟨j, j1, j2, j3⟩ := h
          refine ⟨i + j, by omega, by rw [qai, i2, j2], fun q hq => ?_⟩
          rcases Nat.lt_or_ge q i with h | h
          · exact i3 q h
          · rw [show q = i + (q - i) by omega, qai, i2]
            exact j3 _ (by omega)
      refine ih k (k :: l) (by simp; omega) (List.nodup_cons.2 ⟨fun hkl => qbe (hrk k hkl) hg, hn⟩) (fun b hb => ?_) (by simp)
      rcases List.mem_cons.1 hb with rfl | hb
      · exact ⟨hink, .inl rfl⟩
      · exact ⟨(hin b hb).1, .inr (hrk b hb)⟩
  intro a
  by_cases ha : inR f a
  · exact key f.length a [a] (by simp; omega) (by simp) (fun b hb => by
      simp only [List.mem_singleton] at hb
      subst hb
      exact ⟨ha, .inl rfl⟩) (by simp)
  · exact step a fun k hk => by
      rw [qa2 ha] at hk
      cases hk
end
theorem qcc {f : List Node} {h doc : Int} : ∀ (l seen : List Int), kidsGo f h doc seen l = true → l.Nodup ∧ ∀ k ∈ l, k ∉ seen
  | [], _, _ => ⟨List.nodup_nil, fun a h => by cases h⟩
  | x :: r, seen, hg => by
    rw [kidsGo] at hg
    split at hg
    · cases hg
    split at hg
    · cases hg
    rename_i h2
    split at hg
    · cases hg
    split at hg
    · cases hg
    rw [qb] at h2
    obtain ⟨h3, h4⟩ := qcc r _ hg
    refine ⟨List.nodup_cons.2 ⟨fun hm => h4 x hm (by simp), h3⟩, fun k hk => ?_⟩
    rcases List.mem_cons.1 hk with rfl | hk
    · exact h2
    · exact fun hs => h4 k hk (by simp [hs])
section
variable {f : List Node}
theorem qcv (hr : rightP f) {a : Int} (ha : inR f a) : kidsGo f a (nodeAt f a).doc [] (nodeAt f a).kids = true ∧ famB f (nodeAt f a) = true := by
  obtain ⟨_, hl, _⟩ := qag hr ha
  have hkb := hl.2.2.2.2
  unfold kidsB at hkb
  simpa only [Bool.and_eq_true] using hkb
theorem qcd (hr : rightP f) (a : Int) : (nodeAt f a).kids.length ≤ 4096 := by
  by_cases ha : inR f a
  · have hn := (qcc _ _ (qcv hr ha).1).1
    have := qdk hn (m := (List.range f.length).map fun j : Nat => (j : Int) + 1) fun x hx => by
      obtain ⟨h, _⟩ := qas hr ha hx
      have h1 := h.1
      have h2 := h.2
      exact List.mem_map.2 ⟨(x - 1).toNat, List.mem_range.2 (by omega), by omega⟩
    have h4 := hr.1
    simp at this
    omega
  · rw [qa2 ha]
    simp [n0]
theorem qaf {a : Int} (ha : inR f a) : nodeAt f a = atI f (a - 1) := by unfold nodeAt; rw [if_pos (show 1 ≤ a ∧ a ≤ (f.length : Int) from ha)]
end
theorem qln {α : Type} [Inhabited α] (l : List α) (x : α) (i : Int) (h0 : 0 ≤ i) : atI (l ++ [x]) i = if i = l.length then x else atI l i := by
  unfold atI
  simp only [List.getD_eq_getElem?_getD]
  by_cases h : i = l.length
  · rw [if_pos h]
    subst h
    simp
  · rw [if_neg h]
    rcases Nat.lt_or_ge i.toNat l.length with h1 | h1
    · rw [List.getElem?_append_left h1]
    · rw [List.getElem?_eq_none (by simp; omega), List.getElem?_eq_none (by omega)]
theorem qlo {f : List Node} {k : Int} : inB f k = true ↔ inR f k := by
  simp only [inB, decide_eq_true_eq]; rfl
theorem qlp {f : List Node} {k : Int} (hk : inR f k) : upN f k = aboveOf (nodeAt f k) := by
  rw [qaf hk]; rfl
theorem qbw (f : List Node) (m : Node) (k : Int) : nodeAt (f ++ [m]) k = if k = f.length + 1 then m else nodeAt f k := by
  by_cases h : inR (f ++ [m]) k
  · have h1 := h.1
    have h2 := h.2
    simp at h2
    rw [qaf h, qln _ _ _ (by omega)]
    by_cases e : k = f.length + 1
    · rw [if_pos (by omega), if_pos e]
    · rw [if_neg (by omega), if_neg e, qaf (f := f) ⟨h1, by omega⟩]
  · rw [qa2 h]
    have e : k ≠ f.length + 1 := fun e => h ⟨by omega, by simp; omega⟩
    rw [if_neg e, qa2]
    exact fun h2 => h ⟨h2.1, by have := h2.2; simp; omega⟩
noncomputable def txt (f : List Node) (x : Int) : Bool := dec (textB (nodeAt f x).kind)
theorem qf0 (f : List Node) (x : Int) (hl : f.length ≤ 1000000000) : GenC Tryz.prog 59 [⟨24, 1, [[.imm (.sl (f.map Node.iv))]]⟩] [iav x, .ptr 0 1 0 0] (bav (txt f x)) [⟨24, 1, [[.imm (.sl (f.map Node.iv))]]⟩] := by
  have c1 := qz f x hl
  have c2 := qhm (nodeAt f x).kind
  unfold txt
  refine yaj tabs Tryz.func59 9 [.tmp 3] rfl rfl rfl rfl rfl ?_; intro w0 X γ κ
  (repeat' (first | ((with_reducible show AL _ _ _ _ _); first | (refine AL.step tabs rfl ?_; try dsimp only [len, List.nil_append, List.cons_append]) | refine AL.op rfl (yb rfl rfl rfl rfl c1 rfl) ?_ | refine AL.op rfl (yb rfl rfl rfl rfl c2 rfl) ?_ | refine ym ?_) | refine yn ?_ | refine yc ?_ | refine ya ?_ | refine yf ?_ | refine yo ?_ | refine yd ?_))
  exact yam 1 rfl rfl rfl rfl rfl (by simp [cxG])
theorem txt0 (f : List Node) : txt f 0 = false := by
  unfold txt nodeAt
  rw [if_neg (by omega), qg]
  simp [textB, n0]
theorem qhq : ∀ (l : List Int) (k : Int) (j : Nat), l.Nodup → j < l.length → idxGo l (l.getD j default) k = k + j
  | [], _, _, _, h => by simp at h
  | y :: l, k, 0, _, _ => by simp [idxGo]
  | y :: l, k, j + 1, hn, h => by
    rw [List.nodup_cons] at hn
    have h' : j < l.length := by simpa using h
    have hm : l.getD j default ∈ l := by
      rw [List.getD_eq_getElem?_getD, List.getElem?_eq_getElem h']
      exact List.getElem_mem h'
    simp only [List.getD_cons_succ]
    unfold idxGo
    have hne : ¬ l.getD j default = y := fun e => hn.1 (e ▸ hm)
    rw [if_neg hne, qhq l (k + 1) j hn.2 h']
    omega
theorem qhr {l : List Int} (hn : l.Nodup) {j : Int} (h0 : 0 ≤ j) (h1 : j < l.length) : idx l (atI l j) = j := by
  have := qhq l 0 j.toNat hn (by omega)
  unfold idx atI
  rw [this]
  omega
theorem qg2 {l : List Int} {x : Int} (h : x ∈ l) : ∃ j : Int, 0 ≤ j ∧ j < l.length ∧ atI l j = x := by
  obtain ⟨j, hj, e⟩ := List.getElem_of_mem h
  refine ⟨j, by omega, by omega, ?_⟩
  unfold atI
  rw [Int.toNat_natCast, List.getD_eq_getElem?_getD, List.getElem?_eq_getElem hj]
  exact e
theorem qd6 {f : List Node} (hr : rightP f) {h : Int} (hh : inR f h) (hp : (nodeAt f h).parent ≠ 0) : inR f (nodeAt f h).parent ∧ h ∈ (nodeAt f (nodeAt f h).parent).kids := by
  have hl := (qag hr hh).2.1.1
  rcases hl with h0 | ⟨h1, h2⟩
  · exact absurd h0 hp
  · refine ⟨qlo.1 h1, ?_⟩
    have : 0 < cntB (nodeAt f (nodeAt f h).parent).kids h := by omega
    unfold cntB at this
    rw [List.countP_pos_iff] at this
    obtain ⟨a, ha, e⟩ := this
    have : a = h := by simpa using e
    exact this ▸ ha
theorem qf1 {f : List Node} (hr : rightP f) {q k : Int} (hq : inR f q) (hk : k ∈ (nodeAt f q).kids) : inR f k ∧ (nodeAt f k).parent = q := by
  obtain ⟨h1, h2⟩ := qc8 _ _ (qcv hr hq).1 k hk
  exact ⟨qlo.1 h1, h2⟩
theorem qce {f : List Node} (hr : rightP f) {q : Int} (hq : inR f q) : (nodeAt f q).kids.Nodup := (qcc _ _ (qcv hr hq).1).1
def offI (l : List Int) (j : Int) : Int := if j < 0 ∨ (l.length : Int) ≤ j then 0 else atI l j
theorem qf2 {f : List Node} (hr : rightP f) {q : Int} (hq : inR f q) {j b : Int} (h0 : 0 ≤ j) (h1 : j < (nodeAt f q).kids.length) : besideP f (atI (nodeAt f q).kids j) b = offI (nodeAt f q).kids (j + b) := by
  have hm := qf1 hr hq (qa8 h0 h1)
  unfold besideP offI
  rw [hm.2, if_neg (by have := hq.1; omega), qhr (qce hr hq) h0 h1]
def leftN (t : Int → Bool) (l : List Int) : Nat → Nat
  | 0 => 0
  | j + 1 => if t (atI l j) = true then leftN t l j else j + 1
def runGo (f : List Node) (t : Int → Bool) : List Int → List Int
  | [] => []
  | x :: r => if t x = true then (nodeAt f x).data ++ runGo f t r else []
noncomputable def wholeP (f : List Node) (h : Int) : List Int :=
  if (nodeAt f h).parent = 0 then (nodeAt f h).data else
    runGo f (txt f) ((nodeAt f (nodeAt f h).parent).kids.drop (leftN (txt f) (nodeAt f (nodeAt f h).parent).kids (idx (nodeAt f (nodeAt f h).parent).kids h).toNat))
theorem qci {f : List Node} {h : Int} {b : Bool} (he : cfP f h b = 0) : rightP f ∧ inR f h ∧ (b = true → textB (nodeAt f h).kind) ∧ dataB (nodeAt f h).kind := by
  unfold cfP at he
  split at he
  · rename_i h1; exact absurd he h1
  · rename_i h1
    have h1 : faultR f [h] = 0 := by simpa using h1
    unfold faultR at h1
    split at h1
    · rename_i hr
      rw [qb] at hr
      split at h1
      · rename_i hi
        split at he
        · cases he
        · rename_i h2
          refine ⟨hr, qlo.1 (by simpa using hi), fun hb => ?_, ?_⟩
          · apply Classical.byContradiction
            intro h3
            exact h2 (.inr ⟨hb, by rw [qg]; exact h3⟩)
          · apply Classical.byContradiction
            intro h3
            exact h2 (.inl (by rw [qg]; exact h3))
      · cases h1
    · cases h1
theorem qjx (f : List Node) (h : Int) (hf : Fit f) (he : cfP f h true ≠ 0) : PureC Tryz.prog 18 [fav f, iav h] (.tup [.imm (.sl []), iav (cfP f h true)]) := by
  have c1 := qa1 f h true hf
  obtain ⟨w, hw⟩ : ∃ w, w = cfP f h true := ⟨_, rfl⟩
  rw [← hw] at c1 he ⊢
  refine yq tabs Tryz.func18 49 [.tmp 4, .tmp 5] rfl rfl rfl rfl rfl ?_; intro w0 X
  (repeat' (first | ((with_reducible show AL _ _ _ _ _); first | (refine AL.step tabs rfl ?_; try dsimp only [len, List.nil_append, List.cons_append]) | refine AL.op rfl (yb rfl rfl rfl rfl c1 rfl) ?_ | refine ym ?_) | refine yn ?_ | refine yc ?_ | refine ya ?_ | refine yf ?_ | refine AW.block ?_ | refine yt ?_ | refine yh rfl ?_ | refine yg rfl ?_ | (refine yk rfl (fun hc => ?_) (fun hc => ?_) <;> (try simp only [hsx] at hc) <;> (try first | omega | contradiction | (simp [qa] at hc; done))) | refine yo ?_ | refine yy ?_ | refine yd ?_ | refine yp ?_ | refine yw ?_ | refine yr ?_ | refine InB.off rfl ?_ | refine yz ?_ | refine yu ?_))
  all_goals first
    | (exfalso; exact he hc)
    | exact RQ.fin rfl rfl rfl
theorem srcU {C : Cx} {s : St} {tx : TypeId} {y : Operand} (hT : TsOK C.P tab) {i : TI} (hi : look tab tx = some i) {e : TypeId} (hk : i.kd = .sl e) (d : List Int) (hy : s.ev y = some (.imm (.sl (d.map u16)))) : SrcA C s ti55 tx y (d.map cU) := by
  have := SrcA.imm (ie := ti55) hT hi hk hy (qfc d)
  rw [List.map_map] at this
  exact this
theorem qlq (f : List Node) (h : Int) (hf : Fit f) (he : cfP f h true = 0) (hp : (nodeAt f h).parent = 0) : PureC Tryz.prog 18 [fav f, iav h] (.tup [.imm (.sl ((nodeAt f h).data.map u16)), iav 0]) := by
  have hl := hf.len
  obtain ⟨hr, hin, ht, _⟩ := qci he
  have c1 := qa1 f h true hf
  rw [he] at c1
  have c2 := qc0 f h (-1) hf (by omega) (by omega)
  rw [show besideP f h (-1) = 0 by unfold besideP; rw [if_pos hp]] at c2
  have c3 := qz f h hl
  have d0 := qf0 f 0 hl
  rw [txt0] at d0
  have d1 := qf0 f h hl
  rw [show txt f h = true by unfold txt; rw [qb]; exact ht rfl] at d1
  obtain ⟨n, hn⟩ : ∃ n, n = nodeAt f h := ⟨_, rfl⟩
  have hdl := (hf.at h).data
  rw [← hn] at c3 hp hdl ⊢
  refine yq tabs Tryz.func18 49 [.tmp 4, .tmp 5] rfl rfl rfl rfl rfl ?_; intro w0 X
  (repeat' (first | ((with_reducible show AL _ _ _ _ _); first | (refine AL.step tabs rfl ?_; try dsimp only [len, List.nil_append, List.cons_append]) | refine AL.op rfl (yb rfl rfl rfl rfl c1 rfl) ?_ | refine AL.op rfl (yb rfl rfl rfl rfl c2 rfl) ?_ | refine ym ?_) | refine yn ?_ | refine yc ?_ | refine ya ?_ | refine yf ?_ | refine AW.block ?_ | refine yt ?_ | refine yh rfl ?_ | refine yg rfl ?_ | (refine yk rfl (fun hc => ?_) (fun hc => ?_) <;> (try simp only [hsx] at hc) <;> (try first | omega | contradiction | (simp [qa] at hc; done))) | refine yo ?_ | refine yy ?_ | refine yd ?_ | refine yp ?_ | refine yw ?_ | refine yr ?_ | refine InB.off rfl ?_ | refine yz ?_ | refine yu ?_))
  refine yak (α := Unit) (fun _ => ⟨[(2, .ptr 0 1 0 0), (7, .fn 59 [.ptr 0 1 0 0]), (8, iav h), (9, iav 0)], [⟨24, 1, [[.imm (.sl (f.map Node.iv))]]⟩]⟩) (fun _ => True) (fun _ => 0) () (yae 1 rfl (by repeat' (first | exact trivial | refine ⟨rfl, ?_⟩)) rfl rfl (Nat.zero_le _)) trivial ?_
  intro _ _
  (repeat' (first | ((with_reducible show AL _ _ _ _ _); first | (refine AL.step tabs rfl ?_; try dsimp only [len, List.nil_append, List.cons_append]) | refine yac [0] 1 rfl rfl rfl rfl (caps := [.ptr 0 1 0 0]) rfl rfl d0 rfl rfl rfl rfl rfl rfl rfl rfl (hpA := [⟨24, 1, [[.imm (.sl (f.map Node.iv))]]⟩]) rfl (r' := bav false) rfl rfl ?_; try dsimp only [setAll, List.drop_succ_cons, List.drop_zero, List.drop_nil, List.set_cons_succ, List.set_cons_zero, List.cons_append, List.nil_append, List.append_nil, len, Nat.reduceAdd] | refine ym ?_) | refine yn ?_ | refine yc ?_ | refine ya ?_ | refine yf ?_ | refine AW.block ?_ | refine yt ?_ | refine yh rfl ?_ | refine yg rfl ?_ | (refine yk rfl (fun hc => ?_) (fun hc => ?_) <;> (try simp only [hsx] at hc) <;> (try first | omega | contradiction | (simp [qa] at hc; done))) | refine yo ?_ | refine yy ?_ | refine yd ?_ | refine yp ?_ | refine yw ?_ | refine yr ?_ | refine InB.off rfl ?_ | refine yz ?_ | refine yu ?_))
  refine ybl (Le.fresh 10 55 1 rfl rfl) ?_
  refine yak (α := Unit) (fun _ => ⟨[(2, .ptr 0 1 0 0), (7, .fn 59 [.ptr 0 1 0 0]), (10, .os 1 0), (11, iav h)], [⟨24, 1, [[.imm (.sl (f.map Node.iv))]]⟩, ⟨55, 1, []⟩]⟩) (fun _ => True) (fun _ => 0) () (yae 2 rfl (by repeat' (first | exact trivial | refine ⟨rfl, ?_⟩)) rfl rfl (Nat.zero_le _)) trivial ?_
  intro _ _
  (repeat' (first | ((with_reducible show AL _ _ _ _ _); first | (refine AL.step tabs rfl ?_; try dsimp only [len, List.nil_append, List.cons_append]) | refine yac [0] 2 rfl rfl rfl rfl (caps := [.ptr 0 1 0 0]) rfl rfl d1 rfl rfl rfl rfl rfl rfl rfl rfl (hpA := [⟨24, 1, [[.imm (.sl (f.map Node.iv))]]⟩]) rfl (r' := bav true) rfl rfl ?_; try dsimp only [setAll, List.drop_succ_cons, List.drop_zero, List.drop_nil, List.set_cons_succ, List.set_cons_zero, List.cons_append, List.nil_append, List.append_nil, len, Nat.reduceAdd] | refine AL.op rfl (yb rfl rfl rfl rfl c3 rfl) ?_ | refine yad rfl (yar (ie := ti55) (xs := []) (ys := n.data) (g := cU) (ty := 55) (sz := 1) tabs rfl rfl rfl rfl rfl rfl rfl rfl rfl rfl (srcU tabs rfl rfl n.data rfl) (by simp [ti55]; omega) (by simp; omega)) rfl ?_ | refine ym ?_) | (exfalso; omega) | refine yn ?_ | refine yc ?_ | refine ya ?_ | refine yf ?_ | refine AW.block ?_ | refine yt ?_ | refine yh rfl ?_ | refine yg rfl ?_ | (refine yk rfl (fun hc => ?_) (fun hc => ?_) <;> (try simp only [hsx] at hc) <;> (try first | omega | contradiction | (simp [qa] at hc; done))) | refine yo ?_ | refine yy ?_ | refine yd ?_ | refine yp ?_ | refine yw ?_ | refine yr ?_ | refine InB.off rfl ?_ | refine yz ?_ | refine yu ?_))
  all_goals first
    | exact yao rfl (ya0 (.cons (Fz.os (b := ⟨55, 1, n.data.map cU⟩) (rows := n.data.map u16) rfl (List.length_map _).symm (by rw [List.map_map]; rfl)) (.cons (Fz.im rfl) .nil)))
theorem qia (l : List Int) (k : Nat) : (l.map cU).all (fun r => r.all (AV.sc1 k)) = true := by
  rw [List.all_map, List.all_eq_true]
  exact fun n _ => rfl
theorem qcj (f : List Node) (t : Int → Bool) (l : List Int) {k : Int} (h0 : 0 ≤ k) (h1 : k < l.length) : runGo f t (l.drop k.toNat) = if t (atI l k) = true then (nodeAt f (atI l k)).data ++ runGo f t (l.drop (k + 1).toNat) else [] := by
  rw [qd h0 h1]
  rfl
theorem qhs (f : List Node) (h : Int) (hf : Fit f) (he : cfP f h true = 0) (hp : (nodeAt f h).parent ≠ 0) : PureC Tryz.prog 18 [fav f, iav h] (.tup [.imm (.sl ((wholeP f h).map u16)), iav 0]) := by
  have hl := hf.len
  obtain ⟨hr, hin, ht, _⟩ := qci he
  have c1 := qa1 f h true hf
  rw [he] at c1
  obtain ⟨hq, hm⟩ := qd6 hr hin hp
  obtain ⟨w, hw⟩ : ∃ w, w = wholeP f h := ⟨_, rfl⟩
  have hwE : wholeP f h = runGo f (txt f) ((nodeAt f (nodeAt f h).parent).kids.drop (leftN (txt f) (nodeAt f (nodeAt f h).parent).kids (idx (nodeAt f (nodeAt f h).parent).kids h).toNat)) := by unfold wholeP; rw [if_neg hp]
  rw [← hw] at hwE ⊢
  obtain ⟨q, hqe⟩ : ∃ q, q = (nodeAt f h).parent := ⟨_, rfl⟩
  rw [← hqe] at hq hm hp hwE
  have hat := @qf2 f hr q hq
  have hpar : ∀ j : Int, 0 ≤ j → j < (nodeAt f q).kids.length → (nodeAt f (atI (nodeAt f q).kids j)).parent = q := fun j j0 j1 => (qf1 hr hq (qa8 j0 j1)).2
  have hfew := qcd hr q
  have hnd := qce hr hq
  obtain ⟨l, hle⟩ : ∃ l, l = (nodeAt f q).kids := ⟨_, rfl⟩
  rw [← hle] at hat hpar hfew hnd hm hwE
  obtain ⟨i, i0, i1, hi⟩ := qg2 hm
  rw [← hi, qhr hnd i0 i1] at hwE
  have c2 := qc0 f h (-1) hf (by omega) (by omega)
  rw [← hi, hat (b := -1) i0 i1, hi] at c2
  refine yq tabs Tryz.func18 49 [.tmp 4, .tmp 5] rfl rfl rfl rfl rfl ?_; intro w0 X
  (repeat' (first | ((with_reducible show AL _ _ _ _ _); first | (refine AL.step tabs rfl ?_; try dsimp only [len, List.nil_append, List.cons_append]) | refine AL.op rfl (yb rfl rfl rfl rfl c1 rfl) ?_ | refine AL.op rfl (yb rfl rfl rfl rfl c2 rfl) ?_ | refine ym ?_) | refine yn ?_ | refine yc ?_ | refine ya ?_ | refine yf ?_ | refine AW.block ?_ | refine yt ?_ | refine yh rfl ?_ | refine yg rfl ?_ | (refine yk rfl (fun hc => ?_) (fun hc => ?_) <;> (try simp only [hsx] at hc) <;> (try first | omega | contradiction | (simp [qa] at hc; done))) | refine yo ?_ | refine yy ?_ | refine yd ?_ | refine yp ?_ | refine yw ?_ | refine yr ?_ | refine InB.off rfl ?_ | refine yz ?_ | refine yu ?_))
  refine yak (α := Int) (fun j => ⟨[(2, .ptr 0 1 0 0), (7, .fn 59 [.ptr 0 1 0 0]), (8, iav (atI l j)), (9, iav (offI l (j + -1)))], [⟨24, 1, [[.imm (.sl (f.map Node.iv))]]⟩]⟩) (fun j => 0 ≤ j ∧ j ≤ i ∧ leftN (txt f) l j.toNat = leftN (txt f) l i.toNat) (fun j => j.toNat) i (yae 1 rfl ⟨rfl, rfl, by rw [hi]; rfl, rfl, trivial⟩ rfl rfl (Nat.zero_le _)) ⟨i0, Int.le_refl _, rfl⟩ ?_
  rintro j ⟨j0, j1, hj⟩
  have d0 := qf0 f (offI l (j + -1)) hl
  obtain ⟨b, hb⟩ : ∃ b, b = txt f (offI l (j + -1)) := ⟨_, rfl⟩
  rw [← hb] at d0
  have c3 := qc0 f (offI l (j + -1)) (-1) hf (by omega) (by omega)
  (repeat' (first | ((with_reducible show AL _ _ _ _ _); first | (refine AL.step tabs rfl ?_; try dsimp only [len, List.nil_append, List.cons_append]) | refine yac [0] 1 rfl rfl rfl rfl (caps := [.ptr 0 1 0 0]) rfl rfl d0 rfl rfl rfl rfl rfl rfl rfl rfl (hpA := [⟨24, 1, [[.imm (.sl (f.map Node.iv))]]⟩]) rfl (r' := bav b) rfl rfl ?_; try dsimp only [setAll, List.drop_succ_cons, List.drop_zero, List.drop_nil, List.set_cons_succ, List.set_cons_zero, List.cons_append, List.nil_append, List.append_nil, len, Nat.reduceAdd] | refine AL.op rfl (yb rfl rfl rfl rfl c3 rfl) ?_ | refine ym ?_) | refine yn ?_ | refine yc ?_ | refine ya ?_ | refine yf ?_ | refine AW.block ?_ | refine yt ?_ | refine yh rfl ?_ | refine yg rfl ?_ | (refine yk rfl (fun hc => ?_) (fun hc => ?_) <;> (try simp only [hsx] at hc) <;> (try first | omega | contradiction | (simp [qa] at hc; done))) | refine yo ?_ | refine yy ?_ | refine yd ?_ | refine yp ?_ | refine yw ?_ | refine yr ?_ | refine InB.off rfl ?_ | refine yz ?_ | refine yu ?_))
  · have hj0 : 0 ≤ j - 1 := by
      apply Classical.byContradiction
      intro h'
      rw [show offI l (j + -1) = 0 by unfold offI; rw [if_pos (by omega)], txt0, hc] at hb
      cases hb
    have e1 : offI l (j + -1) = atI l (j - 1) := by unfold offI; rw [if_neg (by omega)]; rfl
    have e2 : besideP f (offI l (j + -1)) (-1) = offI l (j - 1 + -1) := by rw [e1]; exact hat hj0 (by omega)
    refine yag (j - 1) (yae 1 rfl ⟨rfl, rfl, by rw [← e1]; rfl, by rw [← e2]; rfl, trivial⟩ rfl rfl (Nat.zero_le _)) ⟨hj0, by omega, ?_⟩ (by omega)
    rw [← hj, show j.toNat = (j - 1).toNat + 1 by omega]
    rw [leftN, if_pos (by rw [show (((j - 1).toNat : Nat) : Int) = j - 1 by omega, ← e1, ← hb]; exact hc)]
  · have hlj : leftN (txt f) l j.toNat = j.toNat := by
      by_cases hj0 : j = 0
      · subst hj0; rfl
      · rw [show j.toNat = (j - 1).toNat + 1 by omega]
        rw [leftN, if_neg ?_]
        rw [show (((j - 1).toNat : Nat) : Int) = j - 1 by omega]
        have e1 : offI l (j + -1) = atI l (j - 1) := by unfold offI; rw [if_neg (by omega)]; rfl
        rw [← e1, ← hb, hc]
        exact Bool.false_ne_true
    refine ybl (Le.fresh 10 55 1 rfl rfl) ?_
    refine yak (α := Int × List Int) (fun x => ⟨[(2, .ptr 0 1 0 0), (7, .fn 59 [.ptr 0 1 0 0]), (10, .os 1 x.2.length), (11, iav (offI l x.1))], [⟨24, 1, [[.imm (.sl (f.map Node.iv))]]⟩, ⟨55, 1, x.2.map cU⟩]⟩) (fun x => 0 ≤ x.1 ∧ x.1 ≤ l.length ∧ x.2 ++ runGo f (txt f) (l.drop x.1.toNat) = w ∧ (x.2.length : Int) ≤ x.1 * 1000000000) (fun x => (l.length - x.1).toNat) (j, []) (yae 2 rfl ⟨rfl, rfl, rfl, by rw [show offI l j = atI l j by unfold offI; rw [if_neg (by omega)]]; rfl, trivial⟩ rfl rfl (Nat.zero_le _)) ⟨by simp only; omega, by simp only; omega, by rw [List.nil_append, hwE, ← hj, hlj], by simp only [List.length_nil]; omega⟩ ?_
    rintro ⟨k, acc⟩ ⟨k0, k1, hk, hka⟩
    simp only at k0 k1 hk hka
    by_cases hb2 : txt f (offI l k) = true
    · have hk1 : k < l.length := by
        apply Classical.byContradiction
        intro h'
        rw [show offI l k = 0 by unfold offI; rw [if_pos (by omega)], txt0] at hb2
        cases hb2
      have e1 : offI l k = atI l k := by unfold offI; rw [if_neg (by omega)]
      have d1 := qf0 f (offI l k) hl
      rw [hb2] at d1
      have c4 := qz f (offI l k) hl
      have c5 := qc0 f (offI l k) 1 hf (by omega) (by omega)
      rw [e1] at c4 c5 d1
      rw [hat (b := 1) k0 hk1] at c5
      have hpk := hpar k k0 hk1
      have hdl := (hf.at (atI l k)).data
      rw [qcj f (txt f) l k0 hk1, if_pos (by rw [← e1]; exact hb2), ← List.append_assoc] at hk
      obtain ⟨n, hn⟩ : ∃ n, n = nodeAt f (atI l k) := ⟨_, rfl⟩
      rw [← hn] at c4 hpk hdl hk
      have hacc : acc.length + n.data.length ≤ 10000000000000 := by omega
      simp only [e1]
      (repeat' (first | ((with_reducible show AL _ _ _ _ _); first | (refine AL.step tabs rfl ?_; try dsimp only [len, List.nil_append, List.cons_append]) | refine yac [0] 2 rfl rfl rfl rfl (caps := [.ptr 0 1 0 0]) rfl rfl d1 rfl rfl rfl rfl rfl rfl rfl rfl (hpA := [⟨24, 1, [[.imm (.sl (f.map Node.iv))]]⟩]) rfl (r' := bav true) rfl rfl ?_; try dsimp only [setAll, List.drop_succ_cons, List.drop_zero, List.drop_nil, List.set_cons_succ, List.set_cons_zero, List.cons_append, List.nil_append, List.append_nil, len, Nat.reduceAdd] | refine AL.op rfl (yb rfl rfl rfl rfl c4 rfl) ?_ | refine AL.op rfl (yb rfl rfl rfl rfl c5 rfl) ?_ | refine yad rfl (yar (ie := ti55) (xs := acc) (ys := n.data) (g := cU) (ty := 55) (sz := 1) tabs rfl rfl rfl rfl rfl rfl rfl rfl rfl rfl (srcU tabs rfl rfl n.data rfl) (by simp only [ti55]; omega) (by omega)) rfl ?_ | refine ym ?_) | (exfalso; omega) | refine yn ?_ | refine yc ?_ | refine ya ?_ | refine yf ?_ | refine AW.block ?_ | refine yt ?_ | refine yh rfl ?_ | refine yg rfl ?_ | (refine yk rfl (fun hc => ?_) (fun hc => ?_) <;> (try simp only [hsx] at hc) <;> (try first | omega | contradiction | (simp [qa] at hc; done))) | refine yo ?_ | refine yy ?_ | refine yd ?_ | refine yp ?_ | refine yw ?_ | refine yr ?_ | refine InB.off rfl ?_ | refine yz ?_ | refine yu ?_))
      refine yag (k + 1, acc ++ n.data) ?_ ?_ ?_
      · exact yae 2 rfl (by repeat' (first | exact trivial | refine ⟨rfl, ?_⟩)) rfl (by simp only [qax]; exact ⟨rfl, qia _ _⟩) (Nat.zero_le _)
      · refine ⟨?_, ?_, hk, ?_⟩
        · show (0 : Int) ≤ k + 1; omega
        · show k + 1 ≤ (l.length : Int); omega
        · simp only [List.length_append]; omega
      · show (l.length - (k + 1) : Int).toNat < (l.length - k : Int).toNat; omega
    · have hb3 : txt f (offI l k) = false := by simpa using hb2
      have d1 := qf0 f (offI l k) hl
      rw [hb3] at d1
      have ek : acc = w := by
        rw [← hk]
        by_cases hk1 : k < l.length
        · have e1 : offI l k = atI l k := by unfold offI; rw [if_neg (by omega)]
          rw [qcj f (txt f) l k0 hk1, if_neg (by rw [← e1]; exact hb2), List.append_nil]
        · rw [List.drop_eq_nil_of_le (by omega)]; simp [runGo]
      subst ek
      (repeat' (first | ((with_reducible show AL _ _ _ _ _); first | (refine AL.step tabs rfl ?_; try dsimp only [len, List.nil_append, List.cons_append]) | refine yac [0] 2 rfl rfl rfl rfl (caps := [.ptr 0 1 0 0]) rfl rfl d1 rfl rfl rfl rfl rfl rfl rfl rfl (hpA := [⟨24, 1, [[.imm (.sl (f.map Node.iv))]]⟩]) rfl (r' := bav false) rfl rfl ?_; try dsimp only [setAll, List.drop_succ_cons, List.drop_zero, List.drop_nil, List.set_cons_succ, List.set_cons_zero, List.cons_append, List.nil_append, List.append_nil, len, Nat.reduceAdd] | refine ym ?_) | refine yn ?_ | refine yc ?_ | refine ya ?_ | refine yf ?_ | refine AW.block ?_ | refine yt ?_ | refine yh rfl ?_ | refine yg rfl ?_ | (refine yk rfl (fun hc => ?_) (fun hc => ?_) <;> (try simp only [hsx] at hc) <;> (try first | omega | contradiction | (simp [qa] at hc; done))) | refine yo ?_ | refine yy ?_ | refine yd ?_ | refine yp ?_ | refine yw ?_ | refine yr ?_ | refine InB.off rfl ?_ | refine yz ?_ | refine yu ?_))
      exact yao rfl (ya0 (.cons (Fz.os (b := ⟨55, 1, acc.map cU⟩) (rows := acc.map u16) rfl (List.length_map _).symm (by rw [List.map_map]; rfl)) (.cons (Fz.im rfl) .nil)))
open Go.Shelf Go.RowKit Go.Lib
def VSrc (b : Nat) (vA : Option Addr) (m : Nat) (vs : List Value) (w : World) : Prop :=
  m = 0 ∨ ∃ vb voff, vA = some ⟨vb, voff, none⟩ ∧ vb ≠ b ∧ ∀ j y, vs[j]? = some y → w.cell? ⟨vb, voff + j, none⟩ = some y
theorem copyV {b : Nat} {vA : Option Addr} {m vc : Nat} {vs : List Value} {w : World} (hV : VSrc b vA m vs w) (hvl : vs.length = m) (h1v : ∀ v ∈ vs, v.oneCell' = true) (W : World) (d o L dc : Nat) (ty : TypeId)
    (hW : ∀ vb j y, vb ≠ b → w.cell? ⟨vb, j, none⟩ = some y → W.cell? ⟨vb, j, none⟩ = some y) (hL : m ≤ L) (hsp : ∀ k, k < m → (W.cell? ⟨d, o + k, none⟩).isSome = true) (hfz : ∀ k, W.frozen? ⟨d, k, none⟩ = false) :
    (Builtin.copy_ #[36, 35] ty #[.slice (some ⟨d, o, none⟩) L dc, .slice vA m vc]).run Tryz.prog W = .ok (goInt vs.length) (W.setCells d o vs) := by
  have tS : Tryz.prog.underlying 36 = some (.slice 55) := Tryz.underlying36
  have iE : (Tryz.prog.info? 55).map (fun i => (i.zero, i.size, i.bytes)) = some (some (Value.int .u16 0), 1, 2) := by kernel_rfl
  obtain ⟨i0, hi0, hz0, hzs, hzb⟩ := info_parts iE
  have hsz : (Tryz.prog.info? 55).map (·.size) = some 1 := by rw [hi0]; simp [hzs]
  rcases hV with h0 | ⟨vb, voff, rfl, hvb, hvs⟩
  · subst h0
    have e : vs = [] := List.length_eq_zero_iff.1 hvl
    subst e
    have := run_copy_none W 36 35 ty 55 (some ⟨d, o, none⟩) vA L dc 0 vc tS hsz (by simp)
    exact this
  · exact run_copy_cells W _ _ ty 55 d o L dc ⟨vb, voff, none⟩ m vc vs tS hsz (by rw [hvl]; simp only [Nat.min_def]; split <;> omega)
      (fun j v hj => by rw [Addr.add_lit]; exact hW vb _ v hvb (hvs j v hj))
      (fun j hj => hsp _ (by omega)) (fun j hj => hfz _) h1v
set_option maxHeartbeats 4000000 in
set_option maxRecDepth 100000 in
theorem qdc (b n c i j m vc : Nat) (vA : Option Addr) (cs vs : List Value) (w : World) (hij : i < j) (hj : j < n) (hle : i + m ≤ j) (hnc : n ≤ c) (hc63 : c ≤ 9223372036854775807)
    (hcl : cs.length = n) (hvl : vs.length = m) (hcs : ∀ j v, cs[j]? = some v → w.cell? ⟨b, j, none⟩ = some v)
    (hsp : ∀ k, k < c → (w.cell? ⟨b, k, none⟩).isSome = true) (hfz : ∀ k, w.frozen? ⟨b, k, none⟩ = false) (hV : VSrc b vA m vs w) (h1c : ∀ v ∈ cs, v.oneCell' = true) (h1v : ∀ v ∈ vs, v.oneCell' = true) :
    Calls Tryz.prog 155 #[.slice (some ⟨b, 0, none⟩) n c, .int .i64 i, .int .i64 j, .slice vA m vc] w fun e w' =>
      e = .returned (.slice (some ⟨b, 0, none⟩) (i + m + (n - j)) c) ∧ ∃ q, w' = (((w.drewN q).setCells b i vs).drew.setCells b (i + m) (cs.drop j)).setCells b (i + m + (n - j)) (List.replicate (n - (i + m + (n - j))) (Value.int .u16 0)) := by
  have mixed : Tryz.prog.follows .mixedOrders = true := by kernel_rfl
  have tS : Tryz.prog.underlying 36 = some (.slice 55) := Tryz.underlying36
  have tI : Tryz.prog.underlying 3 = some (.int .i64) := Tryz.underlying3
  have iE : (Tryz.prog.info? 55).map (fun i => (i.zero, i.size, i.bytes)) = some (some (Value.int .u16 0), 1, 2) := by kernel_rfl
  obtain ⟨i0, hi0, hz0, hzs, hzb⟩ := info_parts iE
  have hsz : (Tryz.prog.info? 55).map (·.size) = some 1 := by rw [hi0]; simp [hzs]
  obtain ⟨t, hti⟩ : ∃ t, i + m + (n - j) = t := ⟨_, rfl⟩
  rw [hti]
  have hti' : (i : Int) + (m : Int) + ((n - j : Nat) : Int) = (t : Int) := by omega
  have hz1 : ¬ ((i : Int) = (j : Int)) := by omega
  have hz2 : ¬ ((j : Int) = (n : Int)) := by omega
  have hin : i ≤ n := by omega
  have hic : i ≤ c := by omega
  have hjn : j ≤ n := by omega
  have hji : (i : Int) ≤ (j : Int) := by omega
  have hjn' : (j : Int) ≤ (n : Int) := by omega
  have hnj : n - j = n - j := rfl
  have hw1 : IntKind.i64.wrap ((i : Int) + (m : Int)) = (i : Int) + (m : Int) := by rw [IntKind.wrap_i64]; omega
  have hw2 : IntKind.i64.wrap ((i : Int) + (m : Int) + ((n - j : Nat) : Int)) = (t : Int) := by rw [IntKind.wrap_i64]; omega
  have hcj : ¬ (c = j) := by omega
  have htc : t ≤ c := by omega
  have hci : ¬ (c = i) := by omega
  have hcim : ¬ (c = i + m) := by omega
  have hle' : (i : Int) + (m : Int) ≤ (j : Int) := by omega
  have hbt : (i : Int) + (m : Int) ≤ (t : Int) := by omega
  have hbt' : i + m ≤ t := by omega
  have htn : ((i : Int) + (m : Int)).toNat = i + m := by omega
  have hb1 : (0 : Int) ≤ (i : Int) + (m : Int) := by omega
  have hdl : (cs.drop j).length = n - j := by rw [List.length_drop, hcl]
  have hcpA : ∀ q ty dc, (Builtin.copy_ #[36, 35] ty #[.slice (some ⟨b, i, none⟩) (t - i) dc, .slice vA m vc]).run Tryz.prog (w.drewN q) = .ok (goInt vs.length) ((w.drewN q).setCells b i vs) := fun q ty dc =>
    copyV hV hvl h1v (w.drewN q) b i (t - i) dc ty (fun vb j y _ h => h) (by omega) (fun k hk => hsp _ (by omega)) (fun k => hfz k)
  have hsp1 : ∀ q k, k < c → (((w.drewN q).setCells b i vs).cell? ⟨b, k, none⟩).isSome = true := fun q k hk =>
    isSome_setCells b vs i (w.drewN q) (fun j hj => hsp _ (by omega)) _ (hsp k hk)
  have hfz1 : ∀ q k, ((w.drewN q).setCells b i vs).frozen? ⟨b, k, none⟩ = false := fun q k => by rw [World.frozen?_setCells]; exact hfz k
  have hcpB : ∀ q (W : World), (∀ x, W.cell? x = ((w.drewN q).setCells b i vs).cell? x) → (∀ x, W.frozen? x = ((w.drewN q).setCells b i vs).frozen? x) → ∀ ty dc sc, (Builtin.copy_ #[36, 36] ty #[.slice (some ⟨b, i + m, none⟩) (t - (i + m)) dc, .slice (some ⟨b, j, none⟩) (n - j) sc]).run Tryz.prog W = .ok (goInt (cs.drop j).length) (W.setCells b (i + m) (cs.drop j)) := fun q W hWc hWf ty dc sc =>
    run_copy_cells W _ _ ty 55 b (i + m) (t - (i + m)) dc ⟨b, j, none⟩ (n - j) sc (cs.drop j) tS hsz (by rw [hdl]; simp only [Nat.min_def]; split <;> omega)
      (fun k v hk => by
        rw [Addr.add_lit, hWc, World.cell?_setCells_out b _ _ _ _ (fun _ _ => Or.inr (by show i + vs.length ≤ j + k; omega))]
        exact hcs (j + k) v (by rwa [List.getElem?_drop] at hk))
      (fun k hk => by rw [hWc]; exact hsp1 q _ (by omega)) (fun k hk => by rw [hWf]; exact hfz1 q _) (fun v hv => h1c v (List.mem_of_mem_drop hv))
  by_cases htn' : t < n
  · have hct : ¬ (c = t) := by omega
    have hcl3 : ∀ q ty, (Builtin.clear_ #[36] ty #[.slice (some ⟨b, t, none⟩) (n - t) (c - t)]).run Tryz.prog (((w.drewN q).setCells b i vs).drew.setCells b (i + m) (cs.drop j)) = .ok (.tuple #[]) ((((w.drewN q).setCells b i vs).drew.setCells b (i + m) (cs.drop j)).setCells b t (List.replicate (n - t) (Value.int .u16 0))) :=
      fun q ty => Lib.run_clear_slice _ _ _ ty _ tS Tryz.zeroValue55 rfl rfl b t _ _ (by omega) (fun k hk => isSome_setCells b (cs.drop j) (i + m) ((w.drewN q).setCells b i vs).drew (fun z hz => hsp1 q _ (by omega)) _ (hsp1 q _ (by omega))) (fun k hk => by rw [World.frozen?_setCells]; exact hfz1 q _)
    go_enter Tryz.func155, Tryz.ntmps155
    go_wp2
    go_quiet_o (fail)
    go_wp2_with (at_builtin; refine wpList_copy_runI _ rfl _ _ 36 35 rfl _ _ rfl rfl (hcpA _ _ _) ?_)
    go_region_law_o (refine step_copy_runI rfl _ _ 36 36 rfl (.slice (some ⟨b, i + m, none⟩) (t - (i + m)) (c - (i + m))) (.slice (some ⟨b, j, none⟩) (n - j) (c - j)) (by simp [Act.eval, Act.put]) (by simp [Act.eval, Act.put]) (hcpB nq ((w.drewN nq).setCells b i vs).drew (fun _ => rfl) (fun _ => rfl) 3 (c - (i + m)) (c - j)) ?_)
    all_goals (go_wp2; go_ret; exact ⟨rfl, nq, rfl⟩)
  · have hz : n - t = 0 := by omega
    have htle : t ≤ n := by omega
    rw [hz]
    have hW0 : ∀ q, (((w.drewN q).setCells b i vs).drew.setCells b (i + m) (cs.drop j)).setCells b t (List.replicate 0 (Value.int .u16 0)) = ((w.drewN q).setCells b i vs).drew.setCells b (i + m) (cs.drop j) := fun q => rfl
    have hcl0 : ∀ (W : World) (d : Option Addr) k ty, (Builtin.clear_ #[36] ty #[.slice d 0 k]).run Tryz.prog W = .ok (.tuple #[]) W := fun W d k ty => by
      cases d <;> simp [Builtin.clear_, run_underlying tS, sizeOf, typeInfo, hi0, run_bind (Tryz.zeroValue55 W), storeCells, Builtin.zeroCells]
    go_enter Tryz.func155, Tryz.ntmps155
    go_wp2
    go_quiet_o (fail)
    go_wp2_with (at_builtin; refine wpList_copy_runI _ rfl _ _ 36 35 rfl _ _ rfl rfl (hcpA _ _ _) ?_)
    go_region_law_o (refine step_copy_runI rfl _ _ 36 36 rfl (.slice (some ⟨b, i + m, none⟩) (t - (i + m)) (c - (i + m))) (.slice (some ⟨b, j, none⟩) (n - j) (c - j)) (by simp [Act.eval, Act.put]) (by simp [Act.eval, Act.put]) (hcpB nq ((w.drewN nq).setCells b i vs).drew (fun _ => rfl) (fun _ => rfl) 3 (c - (i + m)) (c - j)) ?_)
    all_goals go_wp2
    all_goals (go_ret; exact ⟨rfl, nq, rfl⟩)
set_option maxHeartbeats 4000000 in
set_option maxRecDepth 100000 in
theorem qdd (b n c i j m vc : Nat) (vA : Option Addr) (cs vs : List Value) (w : World) (hij : i < j) (hj : j < n) (hle : j < i + m) (hnc : n ≤ c) (htc0 : i + m + (n - j) ≤ c) (hc63 : c ≤ 9223372036854775807)
    (hcl : cs.length = n) (hvl : vs.length = m) (hcs : ∀ j v, cs[j]? = some v → w.cell? ⟨b, j, none⟩ = some v)
    (hsp : ∀ k, k < c → (w.cell? ⟨b, k, none⟩).isSome = true) (hfz : ∀ k, w.frozen? ⟨b, k, none⟩ = false) {vb voff : Nat} (hvA : vA = some ⟨vb, voff, none⟩) (hvb : vb ≠ b) (hvs : ∀ j y, vs[j]? = some y → w.cell? ⟨vb, voff + j, none⟩ = some y) (h1c : ∀ v ∈ cs, v.oneCell' = true) (h1v : ∀ v ∈ vs, v.oneCell' = true) :
    Calls Tryz.prog 155 #[.slice (some ⟨b, 0, none⟩) n c, .int .i64 i, .int .i64 j, .slice vA m vc] w fun e w' =>
      e = .returned (.slice (some ⟨b, 0, none⟩) (i + m + (n - j)) c) ∧ ∃ q, w' = ((w.drewN q).setCells b (i + m) (cs.drop j)).setCells b i vs := by
  have mixed : Tryz.prog.follows .mixedOrders = true := by kernel_rfl
  have tS : Tryz.prog.underlying 36 = some (.slice 55) := Tryz.underlying36
  have tI : Tryz.prog.underlying 3 = some (.int .i64) := Tryz.underlying3
  have iE : (Tryz.prog.info? 55).map (fun i => (i.zero, i.size, i.bytes)) = some (some (Value.int .u16 0), 1, 2) := by kernel_rfl
  obtain ⟨i0, hi0, hz0, hzs, hzb⟩ := info_parts iE
  have hsz : (Tryz.prog.info? 55).map (·.size) = some 1 := by rw [hi0]; simp [hzs]
  obtain ⟨t, hti⟩ : ∃ t, i + m + (n - j) = t := ⟨_, rfl⟩
  rw [hti]
  have hti' : (i : Int) + (m : Int) + ((n - j : Nat) : Int) = (t : Int) := by omega
  have hz1 : ¬ ((i : Int) = (j : Int)) := by omega
  have hz2 : ¬ ((j : Int) = (n : Int)) := by omega
  have hin : i ≤ n := by omega
  have hic : i ≤ c := by omega
  have hjn : j ≤ n := by omega
  have hji : (i : Int) ≤ (j : Int) := by omega
  have hjn' : (j : Int) ≤ (n : Int) := by omega
  have hnj : n - j = n - j := rfl
  have hw1 : IntKind.i64.wrap ((i : Int) + (m : Int)) = (i : Int) + (m : Int) := by rw [IntKind.wrap_i64]; omega
  have hw2 : IntKind.i64.wrap ((i : Int) + (m : Int) + ((n - j : Nat) : Int)) = (t : Int) := by rw [IntKind.wrap_i64]; omega
  have hcj : ¬ (c = j) := by omega
  have htc : t ≤ c := by omega
  have hci : ¬ (c = i) := by omega
  have hle' : ¬ ((i : Int) + (m : Int) ≤ (j : Int)) := by omega
  have hbt : (i : Int) + (m : Int) ≤ (t : Int) := by omega
  have hbt' : i + m ≤ t := by omega
  have hbc : ¬ (c = i + m) := by omega
  have htn : ((i : Int) + (m : Int)).toNat = i + m := by omega
  have hb1 : (0 : Int) ≤ (i : Int) + (m : Int) := by omega
  have hdl : (cs.drop j).length = n - j := by rw [List.length_drop, hcl]
  subst hvA
  have hov : ∀ q lb cb, (callFunc 181 #[.slice (some ⟨b, i + m, none⟩) lb cb, .slice (some ⟨vb, voff, none⟩) m vc]).run Tryz.prog (w.drewN q) = .ok (.value (.bool false)) (w.drewN q) := fun q lb cb => by
    obtain ⟨tA, kA, hsa, hkA, _⟩ := cell_shape (hvs 0 _ (List.getElem?_eq_getElem (by omega)))
    obtain ⟨y, hy⟩ := Option.isSome_iff_exists.1 (hsp 0 (by omega))
    obtain ⟨tB, kB, hsb, hkB, _⟩ := cell_shape hy
    rw [run_callFunc_extern Tryz.func181 (by kernel_rfl) (by kernel_rfl) (by kernel_rfl) (e := Extern.SlicesOverlaps.overlaps #[35, 35] #[4]) (by kernel_rfl),
      (qbm (w.drewN q) 35 4 55 Tryz.underlying35 1 Tryz.sizeOf55 ⟨vb, voff, none⟩ ⟨b, i + m, none⟩ m vc lb cb hvb tA tB kA kB hsa hsb hkA (hfz _) (hfz _)).1]
    rfl
  have hcpB : ∀ q ty dc sc, (Builtin.copy_ #[36, 36] ty #[.slice (some ⟨b, i + m, none⟩) (t - (i + m)) dc, .slice (some ⟨b, j, none⟩) (n - j) sc]).run Tryz.prog (w.drewN q).drew = .ok (goInt (cs.drop j).length) ((w.drewN q).drew.setCells b (i + m) (cs.drop j)) := fun q ty dc sc =>
    run_copy_cells (w.drewN q).drew _ _ ty 55 b (i + m) (t - (i + m)) dc ⟨b, j, none⟩ (n - j) sc (cs.drop j) tS hsz (by rw [hdl]; simp only [Nat.min_def]; split <;> omega)
      (fun k v hk => by rw [Addr.add_lit]; exact hcs (j + k) v (by rwa [List.getElem?_drop] at hk))
      (fun k hk => hsp _ (by omega)) (fun k hk => hfz _) (fun v hv => h1c v (List.mem_of_mem_drop hv))
  have hcpA : ∀ q ty dc, (Builtin.copy_ #[36, 35] ty #[.slice (some ⟨b, i, none⟩) (t - i) dc, .slice (some ⟨vb, voff, none⟩) m vc]).run Tryz.prog ((w.drewN q).setCells b (i + m) (cs.drop j)) = .ok (goInt vs.length) (((w.drewN q).setCells b (i + m) (cs.drop j)).setCells b i vs) := fun q ty dc =>
    run_copy_cells _ _ _ ty 55 b i (t - i) dc ⟨vb, voff, none⟩ m vc vs tS hsz (by rw [hvl]; simp only [Nat.min_def]; split <;> omega)
      (fun k v hk => by
        rw [Addr.add_lit, World.cell?_setCells_out b _ _ _ _ (fun h _ => absurd h hvb)]
        exact hvs k v hk)
      (fun k hk => isSome_setCells b (cs.drop j) (i + m) (w.drewN q) (fun z hz => hsp _ (by omega)) _ (hsp _ (by omega))) (fun k hk => by rw [World.frozen?_setCells]; exact hfz _) h1v
  go_enter Tryz.func155, Tryz.ntmps155
  go_wp2
  go_quiet_o (fail)
  go_wp2_with (simp only [hov])
  go_region_law_o (refine step_copy_runI rfl _ _ 36 36 rfl (.slice (some ⟨b, i + m, none⟩) (t - (i + m)) (c - (i + m))) (.slice (some ⟨b, j, none⟩) (n - j) (c - j)) (by simp [Act.eval, Act.put]) (by simp [Act.eval, Act.put]) (hcpB nq 3 (c - (i + m)) (c - j)) ?_)
  all_goals go_wp2_with (at_builtin; refine wpList_copy_runI _ rfl _ _ 36 35 rfl _ _ rfl rfl (hcpA (nq + 1) _ _) ?_)
  all_goals (go_ret; exact ⟨rfl, nq + 1, rfl⟩)
set_option maxHeartbeats 4000000 in
set_option maxRecDepth 100000 in
theorem qeh (b n c i j vb voff m vc : Nat) (cs vs : List Value) (w : World) (hij : i < j) (hj : j < n) (hnc : n ≤ c) (hroom : c < i + m + (n - j)) (hbig : (i + m + (n - j)) * 2 ≤ 140737488355328) (hbig2 : i + m + (n - j) ≤ 140737488355328)
    (hcl : cs.length = n) (hvl : vs.length = m) (hcs : ∀ j v, cs[j]? = some v → w.cell? ⟨b, j, none⟩ = some v)
    (hvs : ∀ j v, vs[j]? = some v → w.cell? ⟨vb, voff + j, none⟩ = some v) (h1c : ∀ v ∈ cs, v.oneCell' = true) (h1v : ∀ v ∈ vs, v.oneCell' = true) :
    Calls Tryz.prog 155 #[.slice (some ⟨b, 0, none⟩) n c, .int .i64 i, .int .i64 j, .slice (some ⟨vb, voff, none⟩) m vc] w fun e w' => ∃ q,
      e = .returned (.slice (some ⟨w.heap.size, 0, none⟩) (i + m + (n - j)) (grownCap (w.drewN q) (i + m + (n - j)) c 55)) ∧
      w' = (((w.drewN (q + 1)).alloc (.cells ((cs.take i).toArray ++ Builtin.zeroCells (Value.int .u16 0).cells (i + m + (n - j) - i) ++ Builtin.zeroCells (Value.int .u16 0).cells (grownCap (w.drewN q) (i + m + (n - j)) c 55 - (i + m + (n - j)))) 55)).setCells w.heap.size i vs).drew.setCells w.heap.size (i + m) (cs.drop j) := by
  have mixed : Tryz.prog.follows .mixedOrders = true := by kernel_rfl
  have tS : Tryz.prog.underlying 36 = some (.slice 55) := Tryz.underlying36
  have tI : Tryz.prog.underlying 3 = some (.int .i64) := Tryz.underlying3
  have iE : (Tryz.prog.info? 55).map (fun i => (i.zero, i.size, i.bytes)) = some (some (Value.int .u16 0), 1, 2) := by kernel_rfl
  obtain ⟨i0, hi0, hz0, hzs, hzb⟩ := info_parts iE
  have hsz : (Tryz.prog.info? 55).map (·.size) = some 1 := by rw [hi0]; simp [hzs]
  obtain ⟨t, hti⟩ : ∃ t, i + m + (n - j) = t := ⟨_, rfl⟩
  rw [hti] at hroom hbig hbig2 ⊢
  have hti' : (i : Int) + (m : Int) + ((n - j : Nat) : Int) = (t : Int) := by omega
  have hz1 : ¬ ((i : Int) = (j : Int)) := by omega
  have hz2 : ¬ ((j : Int) = (n : Int)) := by omega
  have hin : i ≤ n := by omega
  have hic : i ≤ c := by omega
  have hjn : j ≤ n := by omega
  have hji : (i : Int) ≤ (j : Int) := by omega
  have hjn' : (j : Int) ≤ (n : Int) := by omega
  have hw1 : IntKind.i64.wrap ((i : Int) + (m : Int)) = (i : Int) + (m : Int) := by rw [IntKind.wrap_i64]; omega
  have hw2 : IntKind.i64.wrap ((i : Int) + (m : Int) + ((n - j : Nat) : Int)) = (t : Int) := by rw [IntKind.wrap_i64]; omega
  have hcj : ¬ (c = j) := by omega
  have hz3 : (c : Int) < (t : Int) := by omega
  have hbw : b < w.heap.size := block_lt_of_cell (hcs 0 _ (List.getElem?_eq_getElem (by omega)))
  have hm0 : 0 < m := by omega
  have hvw : vb < w.heap.size := block_lt_of_cell (hvs 0 _ (List.getElem?_eq_getElem (by omega)))
  have hkk : (t : Int) - (i : Int) = ((t - i : Nat) : Int) := by omega
  have hik : i + (t - i) = t := by omega
  have hold : ∀ q, (Builtin.firstCells i0.size i (.slice (some ⟨b, 0, none⟩) i c)).run Tryz.prog (w.drewN q).drew = .ok (cs.take i).toArray (w.drewN q).drew := fun q => by
    rw [hzs]
    exact run_firstCells_some (w.drewN q).drew 1 i ⟨b, 0, none⟩ i c (cs.take i) (by rw [List.length_take]; omega) (fun j v hj => by
      rw [Addr.add_lit, Nat.zero_add]
      rw [List.getElem?_take] at hj
      split at hj
      · exact hcs j v hj
      · cases hj)
  have hrz : ∀ q ty, (Builtin.append_ #[36, 3] ty #[.slice (some ⟨b, 0, none⟩) i c, .int .i64 ((t : Int) - (i : Int))]).run Tryz.prog (w.drewN q) =
      .ok (.slice (some ⟨w.heap.size, 0, none⟩) t (grownCap (w.drewN q) t c 55)) ((w.drewN (q + 1)).alloc (.cells ((cs.take i).toArray ++ Builtin.zeroCells (Value.int .u16 0).cells (t - i) ++ Builtin.zeroCells (Value.int .u16 0).cells (grownCap (w.drewN q) t c 55 - t)) 55)) := fun q ty => by
    have h := Lib.run_append_grow_zeros (w.drewN q) 36 3 ty 55 i0 _ .i64 .i64 tS tI hi0 hz0 (some ⟨b, 0, none⟩) i c (cs.take i) (hold q) (t - i) (by omega) (by omega) (by omega) (by omega) (by rw [hzb]; omega) (by rw [hzb, hik]; exact growslice_fits hroom hbig)
    rw [hik] at h
    rw [hkk]
    exact h
  go_enter Tryz.func155, Tryz.ntmps155
  go_wp2
  go_quiet_o (fail)
  have hr := hrz nq
  have hge := grownCap_ge (w.drewN nq) t c 55
  have hcm := grownCap_le_maxLen (w.drewN nq) t c 55 (by unfold maxLen; omega)
  obtain ⟨G, hG⟩ : ∃ G, G = grownCap (w.drewN nq) t c 55 := ⟨_, rfl⟩
  obtain ⟨ROW, hROW⟩ : ∃ ROW : Array Value, ROW = (cs.take i).toArray ++ Builtin.zeroCells (Value.int .u16 0).cells (t - i) ++ Builtin.zeroCells (Value.int .u16 0).cells (G - t) := ⟨_, rfl⟩
  rw [← hG] at hr hge hcm
  rw [← hROW] at hr
  have hRl : t ≤ ROW.size := by
    rw [hROW]
    simp [Builtin.zeroCells, Value.cells]
    omega
  obtain ⟨w2, hw2'⟩ : ∃ w2, w2 = w.drewN (nq + 1) := ⟨_, rfl⟩
  rw [← hw2'] at hr
  have hs2 : w2.heap.size = w.heap.size := by rw [hw2']; rfl
  have hN : ∀ k, k < t → ((w2.alloc (.cells ROW 55)).cell? ⟨w.heap.size, k, none⟩).isSome = true := fun k hk => by
    rw [World.cell?_alloc_at (w := w2) ROW _ w.heap.size k hs2.symm, Array.getElem?_eq_getElem (by omega)]; rfl
  have hNf : ∀ k, (w2.alloc (.cells ROW 55)).frozen? ⟨w.heap.size, k, none⟩ = false := fun k => World.frozen?_alloc_at (w := w2) ROW _ w.heap.size k hs2.symm
  have hOb : ∀ k v, w.cell? ⟨b, k, none⟩ = some v → (w2.alloc (.cells ROW 55)).cell? ⟨b, k, none⟩ = some v := fun k v h => by rw [World.cell?_alloc_past (w := w2) _ b k (by omega), hw2']; exact h
  have hOv : ∀ k v, w.cell? ⟨vb, k, none⟩ = some v → (w2.alloc (.cells ROW 55)).cell? ⟨vb, k, none⟩ = some v := fun k v h => by rw [World.cell?_alloc_past (w := w2) _ vb k (by omega), hw2']; exact h
  have hcpA : ∀ ty dc, (Builtin.copy_ #[36, 35] ty #[.slice (some ⟨w.heap.size, i, none⟩) (t - i) dc, .slice (some ⟨vb, voff, none⟩) m vc]).run Tryz.prog (w2.alloc (.cells ROW 55)) = .ok (goInt vs.length) ((w2.alloc (.cells ROW 55)).setCells w.heap.size i vs) := fun ty dc =>
    run_copy_cells _ _ _ ty 55 w.heap.size i (t - i) dc ⟨vb, voff, none⟩ m vc vs tS hsz (by rw [hvl]; simp only [Nat.min_def]; split <;> omega)
      (fun k v hk => by rw [Addr.add_lit]; exact hOv _ v (hvs k v hk))
      (fun k hk => hN _ (by omega)) (fun k hk => hNf _) h1v
  have hGi : ¬ (G = i) := by omega
  have hGim : ¬ (G = i + m) := by omega
  have hci : ¬ (c = i) := by omega
  have hbN : b ≠ w.heap.size := by omega
  have hdl : (cs.drop j).length = n - j := by rw [List.length_drop, hcl]
  have hbt : (i : Int) + (m : Int) ≤ (t : Int) := by omega
  have hbt' : i + m ≤ t := by omega
  have hit : i ≤ t := by omega
  have hit' : (i : Int) ≤ (t : Int) := by omega
  have htn : ((i : Int) + (m : Int)).toNat = i + m := by omega
  have hb1 : (0 : Int) ≤ (i : Int) + (m : Int) := by omega
  have hcpB : ∀ (W : World), (∀ x, W.cell? x = ((w2.alloc (.cells ROW 55)).setCells w.heap.size i vs).cell? x) → (∀ x, W.frozen? x = ((w2.alloc (.cells ROW 55)).setCells w.heap.size i vs).frozen? x) → ∀ ty dc sc, (Builtin.copy_ #[36, 36] ty #[.slice (some ⟨w.heap.size, i + m, none⟩) (t - (i + m)) dc, .slice (some ⟨b, j, none⟩) (n - j) sc]).run Tryz.prog W = .ok (goInt (cs.drop j).length) (W.setCells w.heap.size (i + m) (cs.drop j)) := fun W hWc hWf ty dc sc =>
    run_copy_cells W _ _ ty 55 w.heap.size (i + m) (t - (i + m)) dc ⟨b, j, none⟩ (n - j) sc (cs.drop j) tS hsz (by rw [hdl]; simp only [Nat.min_def]; split <;> omega)
      (fun k v hk => by
        rw [Addr.add_lit, hWc, World.cell?_setCells_out _ _ _ _ _ (fun h _ => absurd h hbN)]
        exact hOb _ v (hcs (j + k) v (by rwa [List.getElem?_drop] at hk)))
      (fun k hk => by rw [hWc]; exact isSome_setCells _ _ _ _ (fun z hz => hN _ (by omega)) _ (hN _ (by omega)))
      (fun k hk => by rw [hWf, World.frozen?_setCells]; exact hNf _) (fun v hv => h1c v (List.mem_of_mem_drop hv))
  have hG' : Nonempty (PLift (G = grownCap (w.drewN nq) t c 55)) := ⟨⟨hG⟩⟩
  have hROW' : Nonempty (PLift (ROW = (cs.take i).toArray ++ Builtin.zeroCells (Value.int .u16 0).cells (t - i) ++ Builtin.zeroCells (Value.int .u16 0).cells (G - t))) := ⟨⟨hROW⟩⟩
  have hw2'' : Nonempty (PLift (w2 = w.drewN (nq + 1))) := ⟨⟨hw2'⟩⟩
  clear hkk hik hold hrz hG hROW hw2'
  go_wp2_with (first
    | (at_builtin; refine Lib.wpList_append_run _ rfl _ _ _ _ rfl _ _ rfl rfl _ _ (hr _) ?_)
    | (at_builtin; refine wpList_copy_runI _ rfl _ _ 36 35 rfl _ _ rfl rfl (hcpA _ _) ?_))
  go_region_law_o (refine step_copy_runI rfl _ _ 36 36 rfl (.slice (some ⟨w.heap.size, i + m, none⟩) (t - (i + m)) (G - (i + m))) (.slice (some ⟨b, j, none⟩) (n - j) (c - j)) (by simp [Act.eval, Act.put]) (by simp [Act.eval, Act.put]) (hcpB ((w2.alloc (.cells ROW 55)).setCells w.heap.size i vs).drew (fun _ => rfl) (fun _ => rfl) 3 (G - (i + m)) (c - j)) ?_)
  all_goals go_wp2
  all_goals (go_ret; refine ⟨nq, ?_, ?_⟩)
  all_goals
    obtain ⟨⟨e1⟩⟩ := hG'
    obtain ⟨⟨e2⟩⟩ := hROW'
    obtain ⟨⟨e3⟩⟩ := hw2''
    first
    | (subst e1; rfl)
    | rw [e3, e2, e1]
end Go.Proofs.YtmhejcnaanocpaaGreat.A
