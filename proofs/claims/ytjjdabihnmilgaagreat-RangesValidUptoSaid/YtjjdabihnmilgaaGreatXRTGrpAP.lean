/- Contracts: forest.done, forest.Apply, of a node that is made and of one that is put in at the end. -/
import Derived.Test.YtjjdabihnmilgaaGreatXRTGrpAO
import Derived.Test.YtjjdabihnmilgaaGreatXRTGrpAJ
import Derived.Test.YtjjdabihnmilgaaGreatXRTGrpAK
import Derived.RangeFuncBound
import Derived.OwnWalkIn
import Derived.TacticsInMore
namespace Go.Proofs.YtjjdabihnmilgaaGreat.A
set_option linter.unusedVariables false
set_option linter.unusedSimpArgs false
set_option maxRecDepth 100000
set_option maxHeartbeats 4000000
section
variable {C : Cx} {s : St}
theorem fzS {f : List Node} {id : Nat} (hb : nth s.hp id = some ⟨81, 16, f.map rowS⟩) : Fz C s (.agg [.os id f.length]) (fav f) :=
  Fz.agg (.cons (Fz.os (b := ⟨81, 16, f.map rowS⟩) hb (List.length_map _).symm (by rw [List.map_map]; rfl)) .nil)
theorem fzRow {n : Node} {k : AV} (hk : FzI C s k (.sl (n.kids.map i64))) : All2 (FzI C s) (nodeRow n k) n.iv :=
  .cons (.imm _) (.cons (.imm _) (.cons (.imm _) (.cons (.imm _) (.cons (.imm _) (.cons (.imm _) (.cons (.imm _) (.cons (.imm _) (.cons (.imm _) (.cons hk (.cons (.imm _) (.cons (.imm _) (.cons (.imm _) (.cons (.imm _) (.cons (.imm _) (.cons (.imm _) .nil)))))))))))))))
theorem set_same {α : Type} [Inhabited α] (l : List α) (p : Int) (hp : 0 ≤ p) (hp1 : p < l.length) : l.set p.toNat (atI l p) = l := by
  refine ext_atI (by simp) fun i h0 h1 => ?_
  rw [atI_set _ _ _ _ hp hp1 h0]
  split
  · rename_i e; rw [e]
  · rfl
end
theorem rowsK_ren (ρ : Nat → Nat) (f : List Node) (p : Int) (k : AV) : renB ρ ⟨81, 16, rowsK f p k⟩ = ⟨81, 16, rowsK f p (ren1 ρ k)⟩ := by
  unfold renB rowsK
  congr 1
  simp only [List.map_set, List.map_map]
  congr 1
theorem rowS_dat (f : List Node) : (f.map rowS).all (fun r => r.all AV.dat) = true := by
  rw [List.all_map, List.all_eq_true]
  exact fun n _ => rfl
theorem rowS_16 (f : List Node) : ∀ r ∈ f.map rowS, r.length = 16 := by
  intro r hr
  obtain ⟨n, _, rfl⟩ := List.mem_map.1 hr
  rfl
theorem copyAt_c (f : List Node) (hf : Fit f) (i : Int) (h0 : 0 ≤ i) (h1 : i < f.length) : PureC Tryz.prog 90 [(atI f i).av] (.agg (atI (f.map rowS) i)) := by
  rw [atI_map _ _ _ h0 h1]
  exact copyNode_c _ (hf.atI i h0 h1)
theorem atI_upd (f : List Node) (p : Int) (n : Node) (hp : 0 ≤ p) (hp1 : p < f.length) (i : Int) (h0 : 0 ≤ i) : atI (updAt f p n) i = if i = p then n else atI f i := by
  unfold updAt
  exact atI_set _ _ _ _ hp hp1 h0
theorem upd_len (f : List Node) (p : Int) (n : Node) : (updAt f p n).length = f.length := by unfold updAt; simp
theorem upd_fit {f : List Node} {p : Int} {n : Node} (hf : Fit f) (hn : FitN n) : Fit (updAt f p n) := ⟨by rw [upd_len]; exact hf.len, fun m hm => by
  rcases List.mem_or_eq_of_mem_set hm with h | rfl
  · exact hf.node m h
  · exact hn⟩
end Go.Proofs.YtjjdabihnmilgaaGreat.A
namespace Go.Proofs.YtjjdabihnmilgaaGreat.A
set_option linter.unusedVariables false
set_option linter.unusedSimpArgs false
set_option maxRecDepth 100000
set_option maxHeartbeats 4000000
theorem apply_c (f g : List Node) (c : Change) (w : Int) (hf : Fit f) (hr : rightP f) (hd : PureC Tryz.prog 45 [fav f, c.av] (.tup [fav g, iav w])) : PureC Tryz.prog 50 [fav f, c.av] (.tup [fav g, iav w]) := by
  refine PureC.mk tabs Tryz.func50 15 [.cell 4 24, .tmp 5] rfl rfl rfl rfl rfl ?_; intro w0 X
  (repeat' (first | ((with_reducible show AL _ _ _ _ _); first | (refine AL.step tabs rfl ?_; try dsimp only [len, List.nil_append, List.cons_append]) | refine AL.op rfl (OpOK.call rfl rfl rfl rfl (pure_true (right_c f hf) hr) rfl) ?_ | refine AL.op rfl (OpOK.call rfl rfl rfl rfl hd rfl) ?_ | refine AL.nil ?_) | refine AW.seq ?_ | refine AW.region ?_ | refine Then.norm ?_ | refine AW.skip ?_ | refine AW.condT rfl ?_ | refine AW.condF rfl ?_ | (refine AW.cond rfl (fun hc => ?_) (fun hc => ?_) <;> (try simp only [hsx] at hc) <;> (try first | (exfalso; omega) | contradiction | (exfalso; simp [dec_eq] at hc; done))) | refine AW.ret ?_ | refine Then.ret ?_))
  exact RQ.fin rfl rfl rfl
def rowC (c : Change) : List AV := c.iv.map .imm
theorem GenC.cv {P : Program} {f : FuncId} {hp0 hp1 : List Blk} {aa ab : List AV} {r : AV} (h : GenC P f hp0 aa r hp1) (e : ab.map A.cv = aa) : GenC P f hp0 ab r hp1 :=
  ⟨h.1, fun W X γ κ xs hC hx => h.2 W X γ κ xs hC (by rw [← e]; exact cv_all hx)⟩
end Go.Proofs.YtjjdabihnmilgaaGreat.A
namespace Go.Proofs.YtjjdabihnmilgaaGreat.A
set_option linter.unusedVariables false
set_option linter.unusedSimpArgs false
set_option maxRecDepth 100000
set_option maxHeartbeats 4000000
theorem nodup_le {α : Type} [DecidableEq α] : ∀ {l m : List α}, l.Nodup → (∀ x ∈ l, x ∈ m) → l.length ≤ m.length
  | [], m, _, _ => Nat.zero_le _
  | x :: r, m, hn, hs => by
    have hx := hs x (by simp)
    rw [List.nodup_cons] at hn
    have := nodup_le (l := r) (m := m.erase x) hn.2 fun y hy => by
      have hne : y ≠ x := fun e => hn.1 (e ▸ hy)
      exact (List.mem_erase_of_ne hne).2 (hs y (by simp [hy]))
    have hl := List.length_erase_of_mem hx
    have : 0 < m.length := List.length_pos_of_mem hx
    simp only [List.length_cons]
    omega
section
variable {f : List Node}
theorem right_node (hr : rightP f) {a : Int} (ha : inR f a) : madeP (nodeAt f a) ∧ linksP f a (nodeAt f a) ∧ Good f a := by
  have h := hr.2 (a - 1) (by have := ha.1; omega) (by have := ha.2; omega)
  unfold okP at h
  rw [show a - 1 + 1 = a by omega] at h
  have e : nodeAt f a = atI f (a - 1) := by unfold nodeAt; rw [if_pos (show 1 ≤ a ∧ a ≤ (f.length : Int) from ha)]
  rw [e]
  exact h
theorem node_out {a : Int} (ha : ¬ inR f a) : nodeAt f a = n0 := by unfold nodeAt; rw [if_neg (show ¬ (1 ≤ a ∧ a ≤ (f.length : Int)) from ha)]
theorem kidsGo_mem {h doc : Int} : ∀ (l seen : List Int), kidsGo f h doc seen l = true → ∀ k ∈ l, inB f k = true ∧ (nodeAt f k).parent = h
  | [], _, _, k, hk => by cases hk
  | x :: r, seen, hg, k, hk => by
    rw [kidsGo] at hg
    split at hg
    · cases hg
    rename_i h1
    split at hg
    · cases hg
    split at hg
    · cases hg
    rename_i h3
    split at hg
    · cases hg
    rcases List.mem_cons.1 hk with rfl | hk
    · refine ⟨by simpa using h1, ?_⟩
      rw [dec_false, Decidable.not_not] at h3
      exact h3
    · exact kidsGo_mem r _ hg k hk
theorem famGo_mem {K : Int → Int} {d : Bool} : ∀ (l : List Int) (e t : Int), famGo K d l e t = true → ∀ k ∈ l, K k ≠ 12
  | [], _, _, _, k, hk => by cases hk
  | x :: r, e, t, hg, k, hk => by
    rw [famGo] at hg
    rcases List.mem_cons.1 hk with rfl | hk
    · intro h12
      rw [h12] at hg
      simp at hg
    · split at hg
      · exact famGo_mem r _ _ hg k hk
      split at hg
      · split at hg
        · cases hg
        · exact famGo_mem r _ _ hg k hk
      split at hg
      · split at hg
        · cases hg
        · exact famGo_mem r _ _ hg k hk
      split at hg
      · exact famGo_mem r _ _ hg k hk
      · cases hg
theorem right_kid (hr : rightP f) {a k : Int} (ha : inR f a) (hk : k ∈ (nodeAt f a).kids) : inR f k ∧ upN f k = a := by
  obtain ⟨_, hl, _⟩ := right_node hr ha
  have hkb := hl.2.2.2.2
  unfold kidsB at hkb
  simp only [Bool.and_eq_true] at hkb
  obtain ⟨h1, h2⟩ := kidsGo_mem _ _ hkb.1 k hk
  have h12 := famGo_mem _ _ _ hkb.2 k hk
  have hin : inR f k := by simpa [inB, inR] using h1
  refine ⟨hin, ?_⟩
  have e : nodeAt f k = atI f (k - 1) := by unfold nodeAt; rw [if_pos (show 1 ≤ k ∧ k ≤ (f.length : Int) from hin)]
  unfold upN aboveOf
  rw [← e, if_neg h12]
  exact h2
/-- What holds of a node as soon as it holds of its kids holds of all. -/
theorem right_ind (hr : rightP f) (P : Int → Prop) (step : ∀ a, (∀ k ∈ (nodeAt f a).kids, P k) → P a) : ∀ a, P a := by
  have key : ∀ (m : Nat) (a : Int) (l : List Int), l.length + m = f.length + 1 → l.Nodup → (∀ b ∈ l, inR f b ∧ (b = a ∨ Reach f a b)) → a ∈ l → P a := by
    intro m
    induction m with
    | zero =>
      intro a l hl hn hin _
      exfalso
      have := nodup_le (l := l) (m := (List.range f.length).map fun j : Nat => (j : Int) + 1) hn fun x hx => by
        have hx := (hin x hx).1
        have h1 := hx.1
        have h2 := hx.2
        exact List.mem_map.2 ⟨(x - 1).toNat, List.mem_range.2 (by omega), by omega⟩
      simp at this
      omega
    | succ m ih =>
      intro a l hl hn hin ha
      refine step a fun k hk => ?_
      have hina := (hin a ha).1
      obtain ⟨hink, hup⟩ := right_kid hr hina hk
      have hg := (right_node hr hink).2.2
      have hrk : ∀ b ∈ l, Reach f k b := by
        intro b hb
        have h1 : Reach f k a := hup ▸ reach_one hink
        rcases (hin b hb).2 with rfl | h
        · exact h1
        · obtain ⟨i, i1, i2, i3⟩ := h1
          obtain ⟨j, j1, j2, j3⟩ := h
          refine ⟨i + j, by omega, by rw [itN_add, i2, j2], fun q hq => ?_⟩
          rcases Nat.lt_or_ge q i with h | h
          · exact i3 q h
          · rw [show q = i + (q - i) by omega, itN_add, i2]
            exact j3 _ (by omega)
      refine ih k (k :: l) (by simp; omega) (List.nodup_cons.2 ⟨fun hkl => reach_loop (hrk k hkl) hg, hn⟩) (fun b hb => ?_) (by simp)
      rcases List.mem_cons.1 hb with rfl | hb
      · exact ⟨hink, .inl rfl⟩
      · exact ⟨(hin b hb).1, .inr (hrk b hb)⟩
  intro a
  by_cases ha : inR f a
  · exact key f.length a [a] (by simp; omega) (by simp) (fun b hb => by
      simp only [List.mem_singleton] at hb
      subst hb
      exact ⟨ha, .inl rfl⟩) (by simp)
  · exact step a fun k hk => by
      rw [node_out ha] at hk
      cases hk
end
theorem kidsGo_nodup {f : List Node} {h doc : Int} : ∀ (l seen : List Int), kidsGo f h doc seen l = true → l.Nodup ∧ ∀ k ∈ l, k ∉ seen
  | [], _, _ => ⟨List.nodup_nil, fun a h => by cases h⟩
  | x :: r, seen, hg => by
    rw [kidsGo] at hg
    split at hg
    · cases hg
    split at hg
    · cases hg
    rename_i h2
    split at hg
    · cases hg
    split at hg
    · cases hg
    rw [dec_true] at h2
    obtain ⟨h3, h4⟩ := kidsGo_nodup r _ hg
    refine ⟨List.nodup_cons.2 ⟨fun hm => h4 x hm (by simp), h3⟩, fun k hk => ?_⟩
    rcases List.mem_cons.1 hk with rfl | hk
    · exact h2
    · exact fun hs => h4 k hk (by simp [hs])
section
variable {f : List Node}
theorem right_kidsB (hr : rightP f) {a : Int} (ha : inR f a) : kidsGo f a (nodeAt f a).doc [] (nodeAt f a).kids = true ∧ famB f (nodeAt f a) = true := by
  obtain ⟨_, hl, _⟩ := right_node hr ha
  have hkb := hl.2.2.2.2
  unfold kidsB at hkb
  simpa only [Bool.and_eq_true] using hkb
theorem node_in {a : Int} (ha : inR f a) : nodeAt f a = atI f (a - 1) := by unfold nodeAt; rw [if_pos (show 1 ≤ a ∧ a ≤ (f.length : Int) from ha)]
end
theorem inB_R {f : List Node} {k : Int} : inB f k = true ↔ inR f k := by
  simp only [inB, decide_eq_true_eq]; rfl
theorem not0 {g : List Node} : ¬ inR g 0 := fun h => by have := h.1; omega
end Go.Proofs.YtjjdabihnmilgaaGreat.A
namespace Go.Proofs.YtjjdabihnmilgaaGreat.A
open Go.Shelf Go.RowKit
set_option linter.unusedVariables false
set_option linter.unusedSimpArgs false
set_option maxHeartbeats 4000000
set_option maxRecDepth 100000
theorem All2.uncons {α β : Type} {R : α → β → Prop} {v : α} {l : List α} {xs : List β} (h : All2 R (v :: l) xs) : ∃ x ys, xs = x :: ys ∧ R v x ∧ All2 R l ys := by
  cases h with
  | cons h1 h2 => exact ⟨_, _, rfl, h1, h2⟩
theorem at_in (f : List Node) (hl : f.length ≤ 1000000000) (h : Int) (W : World) (ad : Addr) (c : Nat) (h1 : 1 ≤ h) (h2 : h ≤ f.length) (k0 i8 i10 i11 i12 k13 : Int) (s1 s2 s3 s4 s5 : ByteArray) (A6 A7 A9 : Option Addr) (n6 m6 n7 m7 n9 m9 : Nat) (b14 b15 : Bool) (hrow : ∀ (j : Nat) (u : Value), [Value.int .u8 k0, Value.string s1, Value.string s2, Value.string s3, Value.string s4, Value.string s5, Value.slice A6 n6 m6, Value.slice A7 n7 m7, Value.int .i64 i8, Value.slice A9 n9 m9, Value.int .i64 i10, Value.int .i64 i11, Value.int .i64 i12, Value.int .u8 k13, Value.bool b14, Value.bool b15][j]? = some u → W.cell? (ad.add ((h.toNat - 1) * 16 + j)) = some u) :
    Calls Tryz.prog 57 #[.agg #[.slice (some ad) f.length c], .int .i64 h] W fun e W' => e = .returned (.agg #[Value.int .u8 k0, Value.string s1, Value.string s2, Value.string s3, Value.string s4, Value.string s5, Value.slice A6 n6 m6, Value.slice A7 n7 m7, Value.int .i64 i8, Value.slice A9 n9 m9, Value.int .i64 i10, Value.int .i64 i11, Value.int .i64 i12, Value.int .u8 k13, Value.bool b14, Value.bool b15]) ∧ Below W.heap.size W W' := by
  have d1 : decide (h < 1) = false := decide_eq_false (by omega)
  have d2 : decide ((f.length : Int) < h) = false := decide_eq_false (by omega)
  have d3 : IntKind.i64.wrap (h - 1) = h - 1 := by rw [IntKind.wrap_i64]; omega
  have hcell : ∀ (o1 o2 : Obj) (p : Addr) (y : Value), W.cell? p = some y → ((W.alloc o1).alloc o2).cell? p = some y := fun o1 o2 p y hy => by
    obtain ⟨o, ho⟩ := cell_block hy
    have hlt := (Array.getElem?_eq_some_iff.1 ho).1
    exact (World.cell?_of_block ((Below.heap_alloc _ o2 _ (by simp; omega)).trans (Below.heap_alloc W o1 _ hlt))).trans hy
  have hadd : ∀ j : Nat, j ≠ 0 → ({ block := (ad.add ((h.toNat - 1) * 16)).block, off := (ad.add ((h.toNat - 1) * 16)).off + j } : Addr) = ad.add ((h.toNat - 1) * 16 + j) := fun j hj => by
    unfold Addr.add
    split
    · rename_i hk; rw [if_neg (by omega), hk, Nat.zero_add]
    · rw [if_neg (by omega)]; simp only [Nat.add_assoc]
  have e0 : ∀ o1 o2 : Obj, ((W.alloc o1).alloc o2).cell? (ad.add ((h.toNat - 1) * 16)) = some (Value.int .u8 k0) := fun o1 o2 => hcell _ _ _ _ (hrow 0 _ rfl)
  have e1 : ∀ o1 o2 : Obj, ((W.alloc o1).alloc o2).cell? { block := (ad.add ((h.toNat - 1) * 16)).block, off := (ad.add ((h.toNat - 1) * 16)).off + 1 } = some (Value.string s1) := fun o1 o2 => by rw [hadd 1 (by decide)]; exact hcell _ _ _ _ (hrow 1 _ rfl)
  have e2 : ∀ o1 o2 : Obj, ((W.alloc o1).alloc o2).cell? { block := (ad.add ((h.toNat - 1) * 16)).block, off := (ad.add ((h.toNat - 1) * 16)).off + 2 } = some (Value.string s2) := fun o1 o2 => by rw [hadd 2 (by decide)]; exact hcell _ _ _ _ (hrow 2 _ rfl)
  have e3 : ∀ o1 o2 : Obj, ((W.alloc o1).alloc o2).cell? { block := (ad.add ((h.toNat - 1) * 16)).block, off := (ad.add ((h.toNat - 1) * 16)).off + 3 } = some (Value.string s3) := fun o1 o2 => by rw [hadd 3 (by decide)]; exact hcell _ _ _ _ (hrow 3 _ rfl)
  have e4 : ∀ o1 o2 : Obj, ((W.alloc o1).alloc o2).cell? { block := (ad.add ((h.toNat - 1) * 16)).block, off := (ad.add ((h.toNat - 1) * 16)).off + 4 } = some (Value.string s4) := fun o1 o2 => by rw [hadd 4 (by decide)]; exact hcell _ _ _ _ (hrow 4 _ rfl)
  have e5 : ∀ o1 o2 : Obj, ((W.alloc o1).alloc o2).cell? { block := (ad.add ((h.toNat - 1) * 16)).block, off := (ad.add ((h.toNat - 1) * 16)).off + 5 } = some (Value.string s5) := fun o1 o2 => by rw [hadd 5 (by decide)]; exact hcell _ _ _ _ (hrow 5 _ rfl)
  have e6 : ∀ o1 o2 : Obj, ((W.alloc o1).alloc o2).cell? { block := (ad.add ((h.toNat - 1) * 16)).block, off := (ad.add ((h.toNat - 1) * 16)).off + 6 } = some (Value.slice A6 n6 m6) := fun o1 o2 => by rw [hadd 6 (by decide)]; exact hcell _ _ _ _ (hrow 6 _ rfl)
  have e7 : ∀ o1 o2 : Obj, ((W.alloc o1).alloc o2).cell? { block := (ad.add ((h.toNat - 1) * 16)).block, off := (ad.add ((h.toNat - 1) * 16)).off + 7 } = some (Value.slice A7 n7 m7) := fun o1 o2 => by rw [hadd 7 (by decide)]; exact hcell _ _ _ _ (hrow 7 _ rfl)
  have e8 : ∀ o1 o2 : Obj, ((W.alloc o1).alloc o2).cell? { block := (ad.add ((h.toNat - 1) * 16)).block, off := (ad.add ((h.toNat - 1) * 16)).off + 8 } = some (Value.int .i64 i8) := fun o1 o2 => by rw [hadd 8 (by decide)]; exact hcell _ _ _ _ (hrow 8 _ rfl)
  have e9 : ∀ o1 o2 : Obj, ((W.alloc o1).alloc o2).cell? { block := (ad.add ((h.toNat - 1) * 16)).block, off := (ad.add ((h.toNat - 1) * 16)).off + 9 } = some (Value.slice A9 n9 m9) := fun o1 o2 => by rw [hadd 9 (by decide)]; exact hcell _ _ _ _ (hrow 9 _ rfl)
  have e10 : ∀ o1 o2 : Obj, ((W.alloc o1).alloc o2).cell? { block := (ad.add ((h.toNat - 1) * 16)).block, off := (ad.add ((h.toNat - 1) * 16)).off + 10 } = some (Value.int .i64 i10) := fun o1 o2 => by rw [hadd 10 (by decide)]; exact hcell _ _ _ _ (hrow 10 _ rfl)
  have e11 : ∀ o1 o2 : Obj, ((W.alloc o1).alloc o2).cell? { block := (ad.add ((h.toNat - 1) * 16)).block, off := (ad.add ((h.toNat - 1) * 16)).off + 11 } = some (Value.int .i64 i11) := fun o1 o2 => by rw [hadd 11 (by decide)]; exact hcell _ _ _ _ (hrow 11 _ rfl)
  have e12 : ∀ o1 o2 : Obj, ((W.alloc o1).alloc o2).cell? { block := (ad.add ((h.toNat - 1) * 16)).block, off := (ad.add ((h.toNat - 1) * 16)).off + 12 } = some (Value.int .i64 i12) := fun o1 o2 => by rw [hadd 12 (by decide)]; exact hcell _ _ _ _ (hrow 12 _ rfl)
  have e13 : ∀ o1 o2 : Obj, ((W.alloc o1).alloc o2).cell? { block := (ad.add ((h.toNat - 1) * 16)).block, off := (ad.add ((h.toNat - 1) * 16)).off + 13 } = some (Value.int .u8 k13) := fun o1 o2 => by rw [hadd 13 (by decide)]; exact hcell _ _ _ _ (hrow 13 _ rfl)
  have e14 : ∀ o1 o2 : Obj, ((W.alloc o1).alloc o2).cell? { block := (ad.add ((h.toNat - 1) * 16)).block, off := (ad.add ((h.toNat - 1) * 16)).off + 14 } = some (Value.bool b14) := fun o1 o2 => by rw [hadd 14 (by decide)]; exact hcell _ _ _ _ (hrow 14 _ rfl)
  have e15 : ∀ o1 o2 : Obj, ((W.alloc o1).alloc o2).cell? { block := (ad.add ((h.toNat - 1) * 16)).block, off := (ad.add ((h.toNat - 1) * 16)).off + 15 } = some (Value.bool b15) := fun o1 o2 => by rw [hadd 15 (by decide)]; exact hcell _ _ _ _ (hrow 15 _ rfl)
  have hb : Below W.heap.size W W := Below.refl _ W
  clear hrow hcell hadd
  go_enter Tryz.func57, Tryz.ntmps57
  go_wp2
  refine ⟨rfl, _, results_cell_row (p := 4) (ty := 81) rfl _ _ (W.heap.size + 1) 81 _ (0, 0) _ rfl (heap_alloc2_new _ _ _) Tryz.underlying81 rfl (by kernel_rfl), rfl, ?_⟩
  exact ((Below.refl _ W).alloc (Nat.le_refl _) _).alloc (by simp) _
theorem at_out (n : Nat) (hl : n ≤ 1000000000) (h : Int) (W : World) (A : Option Addr) (c : Nat) (hh : h < 1 ∨ (n : Int) < h) :
    Calls Tryz.prog 57 #[.agg #[.slice A n c], .int .i64 h] W fun e W' => e = .returned (.agg #[Value.int .u8 0, Value.string ⟨#[]⟩, Value.string ⟨#[]⟩, Value.string ⟨#[]⟩, Value.string ⟨#[]⟩, Value.string ⟨#[]⟩, Value.slice none 0 0, Value.slice none 0 0, Value.int .i64 0, Value.slice none 0 0, Value.int .i64 0, Value.int .i64 0, Value.int .i64 0, Value.int .u8 0, Value.bool false, Value.bool false]) ∧ Below W.heap.size W W' := by
  have hb : Below W.heap.size W W := Below.refl _ W
  by_cases h1 : h < 1
  · have d1 : decide (h < 1) = true := decide_eq_true h1
    go_enter Tryz.func57, Tryz.ntmps57
    go_wp2
    refine ⟨rfl, _, results_cell_row (p := 4) (ty := 81) rfl _ _ (W.heap.size + 1) 81 _ (0, 0) _ rfl (heap_alloc2_new _ _ _) Tryz.underlying81 rfl (by kernel_rfl), rfl, ?_⟩
    exact ((Below.refl _ W).alloc (Nat.le_refl _) _).alloc (by simp) _
  · have d1 : decide (h < 1) = false := decide_eq_false h1
    have d2 : decide ((n : Int) < h) = true := decide_eq_true (by omega)
    go_enter Tryz.func57, Tryz.ntmps57
    go_wp2
    refine ⟨rfl, _, results_cell_row (p := 4) (ty := 81) rfl _ _ (W.heap.size + 1) 81 _ (0, 0) _ rfl (heap_alloc2_new _ _ _) Tryz.underlying81 rfl (by kernel_rfl), rfl, ?_⟩
    exact ((Below.refl _ W).alloc (Nat.le_refl _) _).alloc (by simp) _
theorem at_old (f : List Node) (hl : f.length ≤ 1000000000) (h : Int) (W : World) (N : Nat → Prop) (v : Value) (hv : RepI W N (.sl (f.map Node.iv)) v) :
    Calls Tryz.prog 57 #[.agg #[v], .int .i64 h] W fun e W' => ∃ xs : List Value, e = .returned (.agg xs.toArray) ∧ Below W.heap.size W W' ∧ All2 (RepI W N) (nodeAt f h).iv xs := by
  by_cases hin : inR f h
  · have i1 := hin.1
    have i2 := hin.2
    generalize hrs : f.map Node.iv = rs at hv
    cases hv with
    | nil A c =>
      have : f = [] := List.map_eq_nil_iff.1 hrs
      subst this
      simp at i2; omega
    | sl _ ad n c sz ys g0 hsz hn hc hb hrl hyc hrep =>
      subst hrs
      have hr : (f.map Node.iv)[(h - 1).toNat]? = some (nodeAt f h).iv := by
        rw [List.getElem?_map, atI_get (by omega) (by omega), node_in hin]; rfl
      have esz : sz = 16 := (hrl _ (List.mem_of_getElem? hr)).symm
      subst esz
      have hrow := (hrep.drop ((h - 1).toNat * 16)).take 16
      rw [flat_row hrl hr] at hrow
      have hyd : ∀ (j : Nat) (u : Value), ((ys.drop ((h - 1).toNat * 16)).take 16)[j]? = some u → W.cell? (ad.add ((h.toNat - 1) * 16 + j)) = some u := by
        intro j u hj
        rw [List.getElem?_take] at hj
        split at hj
        · rw [List.getElem?_drop] at hj
          rw [show h.toNat - 1 = (h - 1).toNat by omega]
          exact hyc _ u hj
        · cases hj
      generalize (ys.drop ((h - 1).toNat * 16)).take 16 = zs at hrow hyd
      obtain ⟨m, hm⟩ : ∃ m, m = nodeAt f h := ⟨_, rfl⟩
      rw [← hm] at hrow ⊢
      have hnl : n = f.length := by rw [hn, List.length_map]
      subst hnl
      have hrow' := hrow
      unfold Node.iv at hrow
      obtain ⟨_, _, rfl, q0, hrow⟩ := hrow.uncons
      obtain ⟨_, _, rfl, q1, hrow⟩ := hrow.uncons
      obtain ⟨_, _, rfl, q2, hrow⟩ := hrow.uncons
      obtain ⟨_, _, rfl, q3, hrow⟩ := hrow.uncons
      obtain ⟨_, _, rfl, q4, hrow⟩ := hrow.uncons
      obtain ⟨_, _, rfl, q5, hrow⟩ := hrow.uncons
      obtain ⟨_, _, rfl, q6, hrow⟩ := hrow.uncons
      obtain ⟨_, _, rfl, q7, hrow⟩ := hrow.uncons
      obtain ⟨_, _, rfl, q8, hrow⟩ := hrow.uncons
      obtain ⟨_, _, rfl, q9, hrow⟩ := hrow.uncons
      obtain ⟨_, _, rfl, q10, hrow⟩ := hrow.uncons
      obtain ⟨_, _, rfl, q11, hrow⟩ := hrow.uncons
      obtain ⟨_, _, rfl, q12, hrow⟩ := hrow.uncons
      obtain ⟨_, _, rfl, q13, hrow⟩ := hrow.uncons
      obtain ⟨_, _, rfl, q14, hrow⟩ := hrow.uncons
      obtain ⟨_, _, rfl, q15, hrow⟩ := hrow.uncons
      cases hrow
      obtain rfl := q0.int_inv
      obtain rfl := q1.str_inv
      obtain rfl := q2.str_inv
      obtain rfl := q3.str_inv
      obtain rfl := q4.str_inv
      obtain rfl := q5.str_inv
      obtain ⟨_, _, rfl, _⟩ := q6.sl_inv
      obtain ⟨_, _, rfl, _⟩ := q7.sl_inv
      obtain rfl := q8.int_inv
      obtain ⟨_, _, rfl, _⟩ := q9.sl_inv
      obtain rfl := q10.int_inv
      obtain rfl := q11.int_inv
      obtain rfl := q12.int_inv
      obtain rfl := q13.int_inv
      obtain rfl := q14.bool_inv
      obtain rfl := q15.bool_inv
      exact (at_in f hl h W ad c i1 i2 _ _ _ _ _ _ _ _ _ _ _ _ _ _ _ _ _ _ _ _ _ _ hyd).mono fun e W' ⟨h1, h2⟩ => ⟨_, h1, h2, hrow'⟩
  · obtain ⟨A, c, rfl, _⟩ := hv.sl_inv
    have := at_out (f.map Node.iv).length (by rw [List.length_map]; exact hl) h W A c (by rw [List.length_map]; unfold inR at hin; omega)
    refine this.mono fun e W' ⟨h1, h2⟩ => ⟨_, h1, h2, ?_⟩
    rw [node_out hin]
    exact .cons (.int _ _) (.cons (.str _) (.cons (.str _) (.cons (.str _) (.cons (.str _) (.cons (.str _) (.cons (.nil _ _) (.cons (.nil _ _) (.cons (.int _ _) (.cons (.nil _ _) (.cons (.int _ _) (.cons (.int _ _) (.cons (.int _ _) (.cons (.int _ _) (.cons (.bool _) (.cons (.bool _) .nil)))))))))))))))
end Go.Proofs.YtjjdabihnmilgaaGreat.A
namespace Go.Proofs.YtjjdabihnmilgaaGreat.A
open Go.Shelf Go.RowKit
set_option linter.unusedVariables false
set_option linter.unusedSimpArgs false
set_option maxHeartbeats 4000000
set_option maxRecDepth 100000
attribute [local go_sem] Oper.semAt_some
def withinL (f : List Node) : Nat → Int → List Int
  | 0, _ => []
  | m + 1, h => h :: (nodeAt f h).kids.flatMap (withinL f m)
def Hgt (f : List Node) : Nat → Int → Prop
  | 0, _ => False
  | m + 1, h => ∀ k ∈ (nodeAt f h).kids, Hgt f m k
theorem rmOf {F : Fence} (hd : F.depth = none) (k : Nat) : F.room k := fun d h => by rw [hd] at h; cases h
theorem roundAny {F : Fence} (hd : F.depth = none) {m m' : Nat} {P : Program} {l : Nat} {f : FuncId} {tmps : Array Value} {assign body : Code} {w : World} {R : Ending → World → Prop}
    (h : RoundIn F m P l f tmps assign body w R) : RoundIn F m' P l f tmps assign body w R := ⟨h.1, fun c cs _ => h.2 c cs (rmOf hd _)⟩
theorem yieldAny {F : Fence} (hd : F.depth = none) {m : Nat} (m' : Nat) {P : Program} {l : Nat} {args : Array Value} {W : World} {R : Ending → World → Prop} (h : YieldAt F m P l args W R) : YieldAt F m' P l args W R := by
  obtain ⟨fn, tmps, assign, body, hy, hR⟩ := h
  exact ⟨fn, tmps, assign, body, hy, roundAny hd hR⟩
theorem RepI.kpm {tys : List TypeId} {B : Nat} {M N : Nat → Prop} (hN : ∀ b, ¬ N b → b < B ∧ ¬ M b) {W W' : World} (hk : KpM tys B M W W') {v : IV} {x : Value} (h : RepI W N v x) : RepI W' N v x :=
  h.keep fun b hb _ => ⟨hk.same b (hN b hb).1 (hN b hb).2, hb⟩
theorem kids_old (f : List Node) (hl : f.length ≤ 1000000000) (h : Int) (W : World) (N : Nat → Prop) (v : Value) (hv : RepI W N (.sl (f.map Node.iv)) v) :
    Calls Tryz.prog 57 #[.agg #[v], .int .i64 h] W fun e W' => ∃ (a0 a1 a2 a3 a4 a5 a6 a7 a8 a10 a11 a12 a13 a14 a15 : Value) (A : Option Addr) (c : Nat), e = .returned (.agg #[a0, a1, a2, a3, a4, a5, a6, a7, a8, .slice A (nodeAt f h).kids.length c, a10, a11, a12, a13, a14, a15]) ∧ Below W.heap.size W W' ∧ RepI W N (.sl ((nodeAt f h).kids.map i64)) (.slice A (nodeAt f h).kids.length c) := by
  refine (at_old f hl h W N v hv).mono ?_
  rintro e W' ⟨xs, rfl, hb, hr⟩
  unfold Node.iv at hr
  obtain ⟨_, _, rfl, q0, hr⟩ := hr.uncons
  obtain ⟨_, _, rfl, q1, hr⟩ := hr.uncons
  obtain ⟨_, _, rfl, q2, hr⟩ := hr.uncons
  obtain ⟨_, _, rfl, q3, hr⟩ := hr.uncons
  obtain ⟨_, _, rfl, q4, hr⟩ := hr.uncons
  obtain ⟨_, _, rfl, q5, hr⟩ := hr.uncons
  obtain ⟨_, _, rfl, q6, hr⟩ := hr.uncons
  obtain ⟨_, _, rfl, q7, hr⟩ := hr.uncons
  obtain ⟨_, _, rfl, q8, hr⟩ := hr.uncons
  obtain ⟨_, _, rfl, q9, hr⟩ := hr.uncons
  obtain ⟨_, _, rfl, q10, hr⟩ := hr.uncons
  obtain ⟨_, _, rfl, q11, hr⟩ := hr.uncons
  obtain ⟨_, _, rfl, q12, hr⟩ := hr.uncons
  obtain ⟨_, _, rfl, q13, hr⟩ := hr.uncons
  obtain ⟨_, _, rfl, q14, hr⟩ := hr.uncons
  obtain ⟨_, _, rfl, q15, hr⟩ := hr.uncons
  cases hr
  obtain ⟨A, c, rfl, _⟩ := q9.sl_inv
  rw [List.length_map] at q9
  exact ⟨_, _, _, _, _, _, _, _, _, _, _, _, _, _, _, A, c, by rw [List.length_map], hb, q9⟩
theorem field7 (a0 a1 a2 a3 a4 a5 a6 a7 a8 x a10 a11 a12 a13 a14 a15 : Value) (W : World) : (Instr.field 81 (.agg #[a0, a1, a2, a3, a4, a5, a6, a7, a8, x, a10, a11, a12, a13, a14, a15]) 7).run Tryz.prog W = .ok x W := by
  obtain ⟨fs, fd, h1, h2, h3, h4, h5⟩ := tk81.fld (f := 7) rfl (show ti81.flds[7]? = some (9, 1, false) from rfl)
  exact field_run h1 h2 (part_one (h5 W) [a0, a1, a2, a3, a4, a5, a6, a7, a8, x, a10, a11, a12, a13, a14, a15] _ (by rw [h3]; rfl))
theorem RepI.cell1 {W : World} {N : Nat → Prop} {l : List Int} {A : Option Addr} {n c : Nat} (h : RepI W N (.sl (l.map i64)) (.slice A n c)) {i : Nat} {k : Int} (hk : l[i]? = some k) : ∃ ad, A = some ad ∧ W.cell? (ad.add i) = some (.int .i64 k) := by
  have hrow : (l.map i64)[i]? = some (i64 k) := by rw [List.getElem?_map, hk]; rfl
  generalize l.map i64 = rs at h hrow
  cases h with
  | nil => simp at hrow
  | sl _ ad _ _ sz ys g0 hsz hn hc hb hrl hyc hrep =>
    refine ⟨ad, rfl, ?_⟩
    have e1 : sz = 1 := (hrl _ (List.mem_of_getElem? hrow)).symm
    subst e1
    have := (hrep.drop (i * 1)).take 1
    rw [flat_row hrl hrow] at this
    obtain ⟨x, zs, h1, h2, _⟩ := this.uncons
    obtain rfl := h2.int_inv
    have h3 : ys[i]? = some (.int .i64 k) := by
      have := congrArg (fun l => l[0]?) h1
      simp only [List.getElem?_cons_zero] at this
      rw [List.getElem?_take_of_lt (by omega), List.getElem?_drop] at this
      simpa using this
    exact hyc i _ h3
def muW (K : Nat) (a : Act) : Nat := K - (match a.tmps.getD 18 undef with | .int _ i => i.toNat | _ => 0)
theorem abides_below {B1 : Nat} {J : List Int → World → Prop} (hJ : AbidesFrom B1 J) {pre : List Int} {W W' : World} (h : J pre W) (hb : Below W.heap.size W W') : J pre W' :=
  hJ pre W W' none h ⟨hb.os, hb.tape, hb.output, hb.size, fun k hk _ => hb.block k hk⟩ (fun r e => by cases e)
theorem within_in {f : List Node} (hl : f.length ≤ 1000000000) (hkl : ∀ h, (nodeAt f h).kids.length ≤ 1000000000) {tys : List TypeId} (h24 : 24 ∉ tys) (B0 : Nat) (M N : Nat → Prop) (hN : ∀ b, ¬ N b → b < B0 ∧ ¬ M b) (l NN B1 : Nat) (J Jx : List Int → World → Prop) (hJ : AbidesFrom B1 J)
    (hY : ∀ pre x W, J pre W → pre.length < NN → YieldAt Fence.wide 0 Tryz.prog l #[.int .i64 x] W fun e W' => (e = .returned (.bool true) ∧ J (pre ++ [x]) W' ∧ KpM tys B0 M W W') ∨ (e = .returned (.bool false) ∧ Jx (pre ++ [x]) W')) :
    ∀ (m : Nat) (h : Int) (n : Nat) (pre : List Int) (W : World) (v : Value), Hgt f m h → B0 ≤ W.heap.size → RepI W N (.sl (f.map Node.iv)) v → J pre W → pre.length + (withinL f m h).length ≤ NN →
      CallsIn Fence.wide n Tryz.prog 175 #[.agg #[v], .int .i64 h, .func (.yield l) #[] #[]] W fun e W' => (e = .returned (.bool true) ∧ J (pre ++ withinL f m h) W' ∧ KpM tys B0 M W W') ∨ (e = .returned (.bool false) ∧ ∃ q, q <+: withinL f m h ∧ Jx (pre ++ q) W') := by
  intro m
  induction m with
  | zero => intro h n pre W v hH; exact hH.elim
  | succ m ih =>
    intro h n pre W v hH hB0 hv hJ0 hlen
    have hdd : ∀ k : Nat, (Fence.wide.depth.isSome = true → 1 ≤ k) := fun k h => by simp [Fence.wide] at h
    have hJ1 : J pre (W.alloc (.cells #[v] 24)) := abides_below hJ hJ0 ((Below.refl _ W).alloc (Nat.le_refl _) _)
    have hy := yieldAny (m' := n - 1) rfl (hY pre h _ hJ1 (by simp only [withinL, List.length_cons] at hlen; omega))
    have hy1 := hy.mono (R' := fun e W1 => (e = .returned (.bool true) ∧ W1.cell? ⟨W.heap.size, 0, none⟩ = some v ∧ CallsIn Fence.wide (n - 1) Tryz.prog 57 #[.agg #[v], .int .i64 h] W1 fun e W2 =>
        ∃ (a0 a1 a2 a3 a4 a5 a6 a7 a8 a10 a11 a12 a13 a14 a15 : Value) (A : Option Addr) (c : Nat), e = .returned (.agg #[a0, a1, a2, a3, a4, a5, a6, a7, a8, .slice A (nodeAt f h).kids.length c, a10, a11, a12, a13, a14, a15]) ∧ J (pre ++ [h]) W2 ∧ KpM tys B0 M W W2 ∧ W2.heap[W.heap.size]? = some (.cells #[v] 24 (0, 0)) ∧ RepI W2 N (.sl ((nodeAt f h).kids.map i64)) (.slice A (nodeAt f h).kids.length c)) ∨ (e = .returned (.bool false) ∧ Jx (pre ++ [h]) W1)) (by
      rintro e W1 (⟨rfl, hj, hk⟩ | ⟨rfl, hx⟩)
      · have hk0 : KpM tys B0 M W (W.alloc (.cells #[v] 24)) := KpM.below ((Below.refl _ W).alloc (Nat.le_refl _) _) hB0
        have hbx : W1.heap[W.heap.size]? = some (.cells #[v] 24 (0, 0)) := hk.cells _ _ _ _ (heap_alloc_new W _) h24
        refine .inl ⟨rfl, by simp [World.cell?, hbx], ?_⟩
        have hv1 := hv.kpm hN (hk0.trans hk)
        refine ((callsIn_wide (n := n - 1)).2 (kids_old f hl h W1 N v hv1)).mono ?_
        rintro e W2 ⟨a0, a1, a2, a3, a4, a5, a6, a7, a8, a10, a11, a12, a13, a14, a15, A, c, rfl, hb, hr⟩
        have hk2 : KpM tys B0 M W1 W2 := KpM.below hb (Nat.le_trans hB0 (hk0.trans hk).size)
        exact ⟨a0, a1, a2, a3, a4, a5, a6, a7, a8, a10, a11, a12, a13, a14, a15, A, c, rfl, abides_below hJ hj hb, (hk0.trans hk).trans hk2, hk2.cells _ _ _ _ hbx h24, hr.kpm hN hk2⟩
      · exact .inr ⟨rfl, hx⟩)
    clear hy
    obtain ⟨fn, tmps, assign, body, hyr, hR⟩ := hy1
    have hfd := field7
    refine callsIn_of_wp Tryz.func175 rfl trivial ?_ rfl
    simp only [Tryz.ntmps175, List.size_toArray, List.length_cons, List.length_nil, Nat.reduceAdd, Nat.reduceSub, Array.replicate_succ, Array.replicate_zero, List.push_toArray, List.append_toArray, List.nil_append, List.cons_append]
    gi_wp2_with (first
      | ((try refine ⟨hdd _, ?_⟩); refine hR.mono ?_; clear hR; rintro e W1 (⟨rfl, hc1, hat⟩ | ⟨rfl, hx1⟩))
      | ((try refine ⟨trivial, hdd _, ?_⟩); gi_at_call 57; refine hat.mono ?_; clear hat; rintro e W2 ⟨a0, a1, a2, a3, a4, a5, a6, a7, a8, a10, a11, a12, a13, a14, a15, A, c, rfl, hJ2, hk2, hbx2, hr2⟩))
    · have hb2 := hk2.size
      refine wpIn_loop (fun a W' => ∃ (i : Nat) (x8 x19 x20 x21 x22 x23 x24 x25 x26 x27 : Value), i ≤ (nodeAt f h).kids.length ∧ a = { tmps := #[Value.agg #[v], Value.int IntKind.i64 h, Value.func (Fn.yield l) #[] #[], Value.pointer (some { block := W.heap.size, off := 0 }), undef, undef, Value.bool false, undef, x8, Value.func (Fn.yield l) #[] #[], Value.int IntKind.i64 h, Value.bool true, Value.bool false, Value.agg #[v], Value.int IntKind.i64 h,
          Value.agg #[a0, a1, a2, a3, a4, a5, a6, a7, a8, Value.slice A (nodeAt f h).kids.length c, a10, a11, a12, a13, a14, a15], Value.slice A (nodeAt f h).kids.length c, Value.int IntKind.i64 (nodeAt f h).kids.length, Value.int IntKind.i64 i, x19, x20, x21, x22, x23, x24, x25, x26, x27], defers := [] } ∧
          J (pre ++ h :: ((nodeAt f h).kids.take i).flatMap (withinL f m)) W' ∧ KpM tys B0 M W W' ∧ W'.heap[W.heap.size]? = some (.cells #[v] 24 (0, 0)) ∧ RepI W' N (.sl ((nodeAt f h).kids.map i64)) (.slice A (nodeAt f h).kids.length c))
        (fun a _ => muW (nodeAt f h).kids.length a) ⟨0, _, _, _, _, _, _, _, _, _, _, Nat.zero_le _, rfl, by simpa using hJ2, hk2, hbx2, hr2⟩ ?_
      rintro a W3 ⟨i, x8, x19, x20, x21, x22, x23, x24, x25, x26, x27, hi, rfl, hJ3, hk3, hbx3, hr3⟩
      have hc3 : W3.cell? ⟨W.heap.size, 0, none⟩ = some v := by simp [World.cell?, hbx3]
      by_cases hlt : i < (nodeAt f h).kids.length
      · have d1 : decide ((i : Int) < ((nodeAt f h).kids.length : Int)) = true := decide_eq_true (by omega)
        obtain ⟨k, hk⟩ : ∃ k, (nodeAt f h).kids[i]? = some k := ⟨_, List.getElem?_eq_getElem (by omega)⟩
        obtain ⟨ad, hA, hcell⟩ := hr3.cell1 hk
        subst hA
        have hnx : (nodeAt f h).kids.take (i + 1) = (nodeAt f h).kids.take i ++ [k] := by
          rw [List.take_add_one, hk]; rfl
        have hmem : k ∈ (nodeAt f h).kids := List.mem_of_getElem? hk
        have hlen3 : (pre ++ h :: ((nodeAt f h).kids.take i).flatMap (withinL f m)).length + (withinL f m k).length ≤ NN := by
          have e : (nodeAt f h).kids = (nodeAt f h).kids.take i ++ k :: (nodeAt f h).kids.drop (i + 1) := by
            conv => lhs; rw [← List.take_append_drop i (nodeAt f h).kids]
            rw [List.drop_eq_getElem_cons (by omega)]
            congr 2
            exact (List.getElem?_eq_some_iff.1 hk).2
          simp only [withinL, List.length_cons] at hlen
          rw [e] at hlen
          simp only [List.flatMap_append, List.flatMap_cons, List.length_append] at hlen
          simp only [List.length_append, List.length_cons]
          omega
        have hcall := (ih k (n - 1) _ W3 v (hH k hmem) (Nat.le_trans hB0 hk3.size) (hv.kpm hN hk3) hJ3 hlen3).mono (R' := fun e W4 => (e = .returned (.bool true) ∧ J (pre ++ h :: ((nodeAt f h).kids.take (i + 1)).flatMap (withinL f m)) W4 ∧ KpM tys B0 M W W4 ∧ W4.heap[W.heap.size]? = some (.cells #[v] 24 (0, 0)) ∧ RepI W4 N (.sl ((nodeAt f h).kids.map i64)) (.slice (some ad) (nodeAt f h).kids.length c)) ∨ (e = .returned (.bool false) ∧ ∃ q, q <+: withinL f (m + 1) h ∧ Jx (pre ++ q) W4)) (by
          rintro e W4 (⟨rfl, hj, hk4⟩ | ⟨rfl, q, hq, hx⟩)
          · refine .inl ⟨rfl, ?_, hk3.trans hk4, hk4.cells _ _ _ _ hbx3 h24, hr3.kpm hN hk4⟩
            rw [hnx, List.flatMap_append]
            simpa [List.append_assoc] using hj
          · refine .inr ⟨rfl, h :: ((nodeAt f h).kids.take i).flatMap (withinL f m) ++ q, ?_, by simpa [List.append_assoc] using hx⟩
            obtain ⟨r, hr⟩ := hq
            refine ⟨r ++ ((nodeAt f h).kids.drop (i + 1)).flatMap (withinL f m), ?_⟩
            have e : (nodeAt f h).kids = (nodeAt f h).kids.take i ++ k :: (nodeAt f h).kids.drop (i + 1) := by
              conv => lhs; rw [← List.take_append_drop i (nodeAt f h).kids]
              rw [List.drop_eq_getElem_cons (by omega)]
              congr 2
              exact (List.getElem?_eq_some_iff.1 hk).2
            simp only [withinL]
            conv => rhs; rw [e]
            simp only [List.flatMap_append, List.flatMap_cons, ← hr, List.cons_append, List.append_assoc])
        gi_wp2_with ((try refine ⟨trivial, hdd _, ?_⟩); gi_at_call 175; refine hcall.mono ?_; clear hcall; rintro e W4 (⟨rfl, hJ4, hk4, hbx4, hr4⟩ | ⟨rfl, q, hq, hx⟩))
        · have hw : wrap64 ((i : Int) + 1) = ((i + 1 : Nat) : Int) := by
            have := hkl h
            unfold wrap64
            omega
          rw [hw]
          clear hw
          refine ⟨⟨i + 1, .int .i64 k, .bool true, .pointer (some (ad.add i)), .int .i64 k, .agg #[v], .int .i64 k, .func (.yield l) #[] #[], .bool true, .bool false, .int .i64 ((i + 1 : Nat) : Int), Nat.succ_le_of_lt hlt, rfl, hJ4, hk4, hbx4, hr4⟩, ?_⟩
          exact Nat.sub_lt_sub_left hlt (Nat.lt_succ_self i)
        · exact ⟨rfl, _, results_tmp rfl _ _ _, .inr ⟨rfl, q, hq, hx⟩⟩
      · have d1 : decide ((i : Int) < ((nodeAt f h).kids.length : Int)) = false := decide_eq_false (by omega)
        gi_wp2
        refine ⟨rfl, _, results_tmp rfl _ _ _, .inl ⟨rfl, ?_, hk3⟩⟩
        rw [List.take_of_length_le (by omega)] at hJ3
        exact hJ3
    · refine ⟨rfl, _, results_tmp rfl _ _ _, .inr ⟨rfl, [h], ⟨(nodeAt f h).kids.flatMap (withinL f m), by simp [withinL]⟩, hx1⟩⟩
end Go.Proofs.YtjjdabihnmilgaaGreat.A
namespace Go.Proofs.YtjjdabihnmilgaaGreat.A
open Go.RowKit
set_option linter.unusedVariables false
set_option linter.unusedSimpArgs false
set_option maxHeartbeats 400000
/-- Between two rounds nothing is turned but blocks of Pk. -/
structure PkStep (Pk : Nat → Prop) (W W' : World) : Prop where
  os : W'.os = W.os
  tape : W'.tape = W.tape
  out : W'.output = W.output
  size : W'.heap.size = W.heap.size
  same : ∀ b, ¬ Pk b → W'.heap[b]? = W.heap[b]?
def SeqP {α : Type} (Pk : Nat → Prop) (F : Fence) (n : Nat) (P : Program) (gf : Nat) (lb : Array Value) (encs : α → Array Value) (Kp : World → World → Prop) (S Sp : List α → Prop) (N : Nat) (w : World) : Prop :=
  ∀ (l : Nat) (J Jx : List α → World → Prop) (W : World), Below w.heap.size w W → AbidesFrom W.heap.size J → (∀ s A B, J s A → PkStep Pk A B → J s B) → AbidesFrom W.heap.size Jx →
    (∀ pre x W1, J pre W1 → pre.length < N → YieldAt F (n - 1) P l (encs x) W1 fun e W' => (e = .returned (.bool true) ∧ J (pre ++ [x]) W' ∧ Kp W1 W') ∨ (e = .returned (.bool false) ∧ Jx (pre ++ [x]) W')) →
    J [] W → CallsIn F n P gf (#[.func (.yield l) #[] #[]] ++ lb) W fun e W' => (∃ v, e = .returned v) ∧ ((∃ xs, S xs ∧ J xs W') ∨ ∃ pre, Sp pre ∧ Jx pre W')
theorem SeqP.of {α : Type} {F : Fence} {n : Nat} {P : Program} {gf : Nat} {lb : Array Value} {encs : α → Array Value} {Kp : World → World → Prop} {S Sp : List α → Prop} {N : Nat} {w : World} (h : SeqStopsK F n P gf lb encs Kp S Sp N w) (Pk : Nat → Prop) : SeqP Pk F n P gf lb encs Kp S Sp N w :=
  fun l J Jx W hb hJ _ hJx hY h0 => h l J Jx W hb hJ hJx hY h0
def postP {α : Type} (Kp : World → World → Prop) (I Ix : List α → World → Prop) (xs : List α) (W : World) : Exit → Act → World → Prop
  | .normal, _, W' => KeepsOthers W W' ∧ Kp W W' ∧ I xs W'
  | .ret, _, W' => KeepsOthers W W' ∧ Ix xs W'
  | _, _, _ => False
section
variable {α : Type} {F : Fence} {n : Nat} {P : Program}
def lrec (fn : FuncId) (t : Array Value) (ps : Array Tmp) (asg bd : Code) (D : Nat) (st : LoopState) (pe : Option Code) : Loop := { state := st, pending := pe, fn := fn, tmps := t, params := ps, assign := asg, body := bd, defers := D }
/-- What holds between the rounds of the loop whose record lies at D + 1. -/
def betw (I : List α → World → Prop) (D : Nat) (r : Loop) (pre : List α) (W : World) : Prop := I pre W ∧ W.heap[D + 1]? = some (.loop r) ∧ W.heap[D]? = some (.deferred (some []))
theorem betw.abides {I : List α → World → Prop} {D : Nat} {r : Loop} (hI : OwnFrom D I) {B : Nat} (hB : D ≤ B) : AbidesFrom B (betw I D r) := by
  intro s W W' row h hg hr
  have hw : ∀ r, row = some r → ∃ o : Obj, W.heap[r]? = some o ∧ o.isWalk = true := fun r e => (hr r e).2
  refine ⟨hI s W W' row h.1 hg fun r e => ?_, (grownBy_keeps hg hw h.2.1 rfl).trans h.2.1, (grownBy_keeps hg hw h.2.2 rfl).trans h.2.2⟩
  obtain ⟨h1, o, h2, h3⟩ := hr r e
  exact ⟨Nat.le_trans hB h1, o, h2, Obj.not_cells_of_walk h3⟩
theorem one_round {Kp : World → World → Prop} {I Ix : List α → World → Prop} {D : Nat} (hI : OwnFrom D I) (hIx : OwnFrom D Ix) (hKt : ∀ {A B C : World}, Kp A B → Kp B C → Kp A C)
    (hKb : ∀ (W : World) (l : Nat) (o o' : Obj), D ≤ l → W.heap[l]? = some o → o.isCells = false → o.isWalk = false → Kp W (W.putObj l o'))
    {fn : FuncId} (hfn : F.fn fn) {t : Array Value} {ps : Array Tmp} {asg bd : Code} {args : Array Value} (hps : args.size = ps.size) {a1 : Act} {m : Nat}
    (hassign : ∀ (W : World) (K : Act → World → Prop), K a1 W → asg.wpIn (F.inRound (D + 1)) m P (Exit.then K (fun _ _ _ => False)) { tmps := (ps.zip args).foldl (fun t (p, v) => t.setIfInBounds p v) t, defers := [] } W)
    {pre xs : List α} (hbody : ∀ W, I pre W → bd.wpIn (F.inRound (D + 1)) m P (postP Kp I Ix xs W) a1 W) {W : World} (h : betw I D (lrec fn t ps asg bd D .ready none) pre W) :
    YieldAt F m P (D + 1) args W fun e W' => (e = .returned (.bool true) ∧ betw I D (lrec fn t ps asg bd D .ready none) xs W' ∧ Kp W W') ∨ (e = .returned (.bool false) ∧ betw Ix D (lrec fn t ps asg bd D .done (some .ret)) xs W') := by
  obtain ⟨hi, hl, hd⟩ := h
  have hlt : D + 1 < W.heap.size := (Array.getElem?_eq_some_iff.1 hl).1
  refine ⟨fn, _, asg, bd, run_yield hl hps, roundIn_of_wpIn hfn (hassign W _ ⟨_, run_beginRound hl rfl, ?_⟩)⟩
  obtain ⟨V, hV⟩ : ∃ V, V = W.putObj (D + 1) (.loop { lrec fn t ps asg bd D .ready none with state := .busy }) := ⟨_, rfl⟩
  have hl2 : V.heap[D + 1]? = some (.loop { lrec fn t ps asg bd D .ready none with state := .busy }) := by rw [hV]; exact World.putObj_heap_same hlt
  have hd2 : V.heap[D]? = some (.deferred (some [])) := by rw [hV]; exact (World.putObj_heap_other (by omega)).trans hd
  have hk0 : Kp W V := by rw [hV]; exact hKb _ _ _ _ (by omega) hl rfl rfl
  have hi2 : I pre V := by rw [hV]; exact hI.putObj _ hi (by omega) hl rfl
  rw [← hV]
  have fin : ∀ (st : LoopState) (jump : Option Code) (V1 : World), st = (if jump.isNone then .ready else .done) → KeepsOthers V V1 → (Instr.endRound (D + 1) jump).run P V1 = .ok (.bool jump.isNone) (V1.putObj (D + 1) (.loop (lrec fn t ps asg bd D st jump))) ∧
      V1.heap[D + 1]? = some (.loop { lrec fn t ps asg bd D .ready none with state := .busy }) ∧ (V1.putObj (D + 1) (.loop (lrec fn t ps asg bd D st jump))).heap[D + 1]? = some (.loop (lrec fn t ps asg bd D st jump)) ∧ (V1.putObj (D + 1) (.loop (lrec fn t ps asg bd D st jump))).heap[D]? = some (.deferred (some [])) := by
    rintro st jump V1 rfl hk
    have h1 := hk.same _ _ hl2 rfl
    exact ⟨run_endRound jump h1, h1, World.putObj_heap_same (Array.getElem?_eq_some_iff.1 h1).1, (World.putObj_heap_other (by omega)).trans (hk.same _ _ hd2 rfl)⟩
  refine wpIn_mono (hbody V hi2) ?_
  rintro e a3 V1 hp
  cases e with
  | normal =>
    obtain ⟨hk, hkp, hi3⟩ := hp
    obtain ⟨hr, h1, h2, h3⟩ := fin .ready none V1 rfl hk
    exact ⟨_, _, hr, .inl ⟨rfl, ⟨hI.putObj _ hi3 (by omega) h1 rfl, h2, h3⟩, hKt (hKt hk0 hkp) (hKb _ _ _ _ (by omega) h1 rfl rfl)⟩⟩
  | ret =>
    obtain ⟨hk, hi3⟩ := hp
    obtain ⟨hr, h1, h2, h3⟩ := fin .done (some .ret) V1 rfl hk
    exact ⟨_, _, hr, .inr ⟨rfl, hIx.putObj _ hi3 (by omega) h1 rfl, h2, h3⟩⟩
  | _ => exact hp.elim
theorem wpIn_rangeFunc_P {g : Operand} {ps : Array Tmp} {asg bd : Code} {Q : Exit → Act → World → Prop} {a : Act} {w : World} {Pk : Nat → Prop} (hPk : ∀ b, Pk b → b < w.heap.size) (hro : F.round = none) (h1 : 1 ≤ n) {gf : Nat} {lb : Array Value} (hg : a.eval g = .func (.func gf) #[] lb) (hFg : F.fn gf) (eg : Callable P gf)
    {encs : α → Array Value} {Kp : World → World → Prop} {S Sp : List α → Prop} {N : Nat} (hseq : SeqP Pk F (n - 1) P gf lb encs Kp S Sp N w) (hKt : ∀ {A B C : World}, Kp A B → Kp B C → Kp A C)
    (hKb : ∀ (W : World) (l : Nat) (o o' : Obj), w.heap.size ≤ l → W.heap[l]? = some o → o.isCells = false → o.isWalk = false → Kp W (W.putObj l o')) (hps : ∀ x, (encs x).size = ps.size)
    (I Ix : List α → World → Prop) (hI : OwnFrom w.heap.size I) (hIx : OwnFrom w.heap.size Ix) (hIp : ∀ s A B, I s A → PkStep Pk A B → I s B) (h0 : I [] w) (a1 : α → Act)
    (hassign : ∀ (l : Nat) (x : α) (W : World) (K : Act → World → Prop), K (a1 x) W → asg.wpIn (F.inRound l) (n - 1 - 1) P (Exit.then K (fun _ _ _ => False)) { tmps := (ps.zip (encs x)).foldl (fun t (p, v) => t.setIfInBounds p v) a.tmps, defers := [] } W)
    (hbody : ∀ (l : Nat) (pre : List α) (x : α) (W : World), I pre W → pre.length < N → bd.wpIn (F.inRound l) (n - 1 - 1) P (postP Kp I Ix (pre ++ [x]) W) (a1 x) W)
    (hdone : ∀ (D : Nat) (xs : List α) (W : World), w.heap.size ≤ D → S xs → I xs W → W.heap[D]? = some (.deferred (some [])) → Q .normal { a with defers := { target := .collected D, args := #[] } :: a.defers } W)
    (hstop : ∀ (D : Nat) (pre : List α) (W : World), w.heap.size ≤ D → Sp pre → Ix pre W → W.heap[D]? = some (.deferred (some [])) → Code.ret.wpIn F n P Q { a with defers := { target := .collected D, args := #[] } :: a.defers } W) :
    (Code.rangeFunc g ps asg bd).wpIn F n P Q a w := by
  refine wpIn_rangeFunc fun fn hfn => ?_
  rw [hro]
  obtain ⟨D, hD⟩ : ∃ D, D = w.heap.size := ⟨_, rfl⟩
  obtain ⟨V, hV⟩ : ∃ V, V = (w.alloc (.deferred (some []))).alloc (.loop (lrec fn a.tmps ps asg bd D .ready none)) := ⟨_, rfl⟩
  have hsz : V.heap.size = D + 2 := by rw [hV, hD]; simp
  have hV1 : V.heap[D + 1]? = some (.loop (lrec fn a.tmps ps asg bd D .ready none)) := by
    have := World.alloc_heap_new (w.alloc (.deferred (some []))) (.loop (lrec fn a.tmps ps asg bd D .ready none))
    rw [World.size_alloc, ← hD] at this
    rw [hV]; exact this
  have hV0 : V.heap[D]? = some (.deferred (some [])) := by
    rw [hV, hD]; exact (Below.heap_alloc _ _ _ (by simp)).trans (World.alloc_heap_new w _)
  have hbel : Below w.heap.size w V := by
    rw [hV]; exact ((Below.refl _ w).alloc (Nat.le_refl _) _).alloc (by simp) _
  have hIV : I [] V := by rw [hV]; exact hI.alloc _ (hI.alloc _ h0)
  have hcall := hseq (D + 1) (betw I D (lrec fn a.tmps ps asg bd D .ready none)) (betw Ix D (lrec fn a.tmps ps asg bd D .done (some .ret))) V hbel (betw.abides (hD ▸ hI) (by omega))
    (fun s A B h hp => ⟨hIp s A B h.1 hp, (hp.same _ (fun hk => by have := hPk _ hk; omega)).trans h.2.1, (hp.same _ (fun hk => by have := hPk _ hk; omega)).trans h.2.2⟩) (betw.abides (hD ▸ hIx) (by omega))
    (fun pre x W1 h hlt => one_round (Kp := Kp) (I := I) (Ix := Ix) (hD ▸ hI) (hD ▸ hIx) hKt (hD ▸ hKb) hfn (hps x) (fun W K hK => hassign (D + 1) x W K hK) (fun W hi => hbody (D + 1) pre x W hi hlt) h) ⟨hIV, hV1, hV0⟩
  refine ⟨D + 1, [{ target := .collected D, args := #[] }], V, { target := .fn (.func gf) lb, args := #[.func (.yield (D + 1)) #[] #[]] }, V, gf, #[.func (.yield (D + 1)) #[] #[]] ++ lb, V, ?_, ?_, ?_, ?_, fun _ => h1, ?_⟩
  · rw [hV, hD]; exact run_enterLoop_outer _ _ _ _ _
  · simp only [resolve, hg]
    simp [go_sem]
  · intro f' hf'; simp [Target.leads] at hf'; subst hf'; exact hFg
  · simp [invoke, go_sem]
    exact eg _ _
  · refine hcall.mono ?_
    rintro e W2 ⟨⟨v, rfl⟩, (⟨xs, hS, hi, hl, hk⟩ | ⟨pre, hSp, hi, hl, hk⟩)⟩
    · exact ⟨none, _, run_endLoop hl (by simp [lrec]), hdone D xs _ (by omega) hS ((hD ▸ hI : OwnFrom D I).putObj _ hi (by omega) hl rfl) ((World.putObj_heap_other (by omega)).trans hk)⟩
    · exact ⟨some .ret, _, run_endLoop hl (by simp [lrec]), hstop D pre _ (by omega) hSp ((hD ▸ hIx : OwnFrom D Ix).putObj _ hi (by omega) hl rfl) ((World.putObj_heap_other (by omega)).trans hk)⟩
end
end Go.Proofs.YtjjdabihnmilgaaGreat.A
namespace Go.Proofs.YtjjdabihnmilgaaGreat.A
open Go.RowKit
set_option linter.unusedVariables false
set_option linter.unusedSimpArgs false
def parked (γ : Nat → Option Nat) (k n : Nat) (g : Nat) : Prop := ∃ i, k ≤ i ∧ i < n ∧ γ i = some g
/-- A function value that yields the numbers of xs, and may turn the boxes hq. -/
def IterP (P : Program) (tys : List TypeId) (gf : Nat) (hp hq : List Blk) (caps : List AV) (xs : List Int) : Prop :=
  Callable P gf ∧ ∀ (n : Nat) (W : World) (X : Nat → Prop) (γ : Nat → Option Nat) (κ : Nat → Nat) (lb : List Value), Conc (cxG P X (hp ++ hq) γ κ W 0) ⟨[], hp ++ hq⟩ γ κ noact W → All2 (RepA (St.mm ⟨[], hp ++ hq⟩ (cxG P X (hp ++ hq) γ κ W 0) γ κ W)) caps lb →
    SeqP (parked γ hp.length (hp ++ hq).length) Fence.wide n P gf lb.toArray (fun x : Int => #[Value.int .i64 x]) (KpM tys W.heap.size (ownOf ⟨[], hp⟩ γ)) (fun ys => ys = xs) (fun pre => pre <+: xs) xs.length W
theorem IterC.park {P : Program} {tys : List TypeId} {gf : Nat} {hp : List Blk} {caps : List AV} {xs : List Int} (h : IterC P tys gf hp caps xs) : IterP P tys gf hp [] caps xs :=
  ⟨h.1, fun n W X γ κ lb hC hl => by
    rw [List.append_nil] at hC hl ⊢
    exact SeqP.of (h.2 n W X γ κ lb hC hl) _⟩
/-- How a round may end: the loop goes on with the blocks hp1, or it is left with the blocks hpx. -/
def RX (C : Cx) (hp1 hpx : List Blk) (go stop : Prop) : Exit → St → Prop
  | .normal, s => go ∧ ∃ k, hp1 = s.hp.take k ∧ hp1.all (fun b => b.rows.all fun r => r.all (AV.sc1 k)) = true ∧ C.hp0.length ≤ k
  | .ret, s => stop ∧ ∃ k, hpx = s.hp.take k ∧ hpx.all (fun b => b.rows.all fun r => r.all (AV.sc1 k)) = true ∧ C.hp0.length ≤ k
  | _, _ => False
theorem RX.norm {C : Cx} {hp1 hpx : List Blk} {go stop : Prop} {s : St} (k : Nat) (h0 : go) (h1 : hp1 = s.hp.take k) (h2 : hp1.all (fun b => b.rows.all fun r => r.all (AV.sc1 k)) = true) (h3 : C.hp0.length ≤ k) : RX C hp1 hpx go stop .normal s := ⟨h0, k, h1, h2, h3⟩
theorem RX.ret {C : Cx} {hp1 hpx : List Blk} {go stop : Prop} {s : St} (k : Nat) (h0 : stop) (h1 : hpx = s.hp.take k) (h2 : hpx.all (fun b => b.rows.all fun r => r.all (AV.sc1 k)) = true) (h3 : C.hp0.length ≤ k) : RX C hp1 hpx go stop .ret s := ⟨h0, k, h1, h2, h3⟩
theorem get_all {f : AV → Bool} : ∀ {e : List (Nat × AV)} {t : Nat} {v : AV}, e.all (fun p => f p.2) = true → get e t = some v → f v = true
  | [], _, _, _, h => by cases h
  | (d, u) :: r, t, v, ha, h => by
    simp only [List.all_cons, Bool.and_eq_true] at ha
    simp only [get] at h
    split at h
    · obtain rfl := Option.some.inj h; exact ha.1
    · exact get_all ha.2 h
/-- The same call, told from here on; what lies in the boxes from k on is hidden. -/
def Cx.park (C : Cx) (W : World) (s : St) (γ : Nat → Option Nat) (k : Nat) : Cx := { C with X := fun b => C.X b ∨ parked γ k s.hp.length b, w0 := W, may := ownOf s γ }
section
variable {C : Cx} {s : St} {γ : Nat → Option Nat} {κ : Nat → Nat} {a : Act} {W : World}
theorem Conc.park (k : Nat) {env1 : List (Nat × AV)} (hk : k ≤ s.hp.length) (henv : ∀ t v, get env1 t = some v → get s.env t = some v) (hsc : env1.all (fun p => p.2.sc k) = true) (hblk : (s.hp.take k).all (fun b => b.rows.all fun r => r.all (AV.sc1 k)) = true) (hl : C.hp0.length ≤ k) (hC : Conc C s γ κ a W) :
    Conc (C.park W s γ k) ⟨env1, s.hp.take k⟩ γ κ a W := by
  have hlt : (s.hp.take k).length = k := by simp; omega
  have hget : ∀ id, id < k → (s.hp.take k)[id]? = s.hp[id]? := fun id hi => List.getElem?_take_of_lt hi
  have hN : ∀ b, nset (C.park W s γ k).X γ (s.hp.take k).length b → nset C.X γ s.hp.length b := by
    rintro b ((h | ⟨i, h1, h2, h3⟩) | ⟨i, hi, hg⟩)
    · exact .inl h
    · exact .inr ⟨i, h2, h3⟩
    · exact .inr ⟨i, by omega, hg⟩
  have hkeep : ∀ {v x}, RepA (s.mm C γ κ W) v x → v.sc k = true → RepA (St.mm ⟨env1, s.hp.take k⟩ (C.park W s γ k) γ κ W) v x := fun h hs => sc_keep (M := s.mm C γ κ W) (M' := St.mm ⟨env1, s.hp.take k⟩ (C.park W s γ k) γ κ W) rfl hN rfl rfl hget h hs
  have hkeep1 : ∀ {v x}, RepA (s.mm C γ κ W) v x → v.sc1 k = true → RepA (St.mm ⟨env1, s.hp.take k⟩ (C.park W s γ k) γ κ W) v x := fun h hs => sc1_keep (M := s.mm C γ κ W) (M' := St.mm ⟨env1, s.hp.take k⟩ (C.park W s γ k) γ κ W) rfl hN rfl rfl hget h hs
  rw [List.all_eq_true] at hblk
  refine ⟨hC.size, hC.defers, ?_, ?_, fun i j g hi hj => hC.inj i j g (by simp only at hi; omega) (by simp only at hj; omega), ?_, ?_, fun _ _ _ => rfl, rfl, rfl, rfl, Nat.le_refl _, ?_⟩
  · intro t v h
    obtain ⟨x, h3, h4⟩ := hC.env t v (henv t v h)
    exact ⟨x, h3, hkeep h4 (get_all hsc h)⟩
  · intro id b hb
    have hb' : (s.hp.take k)[id]? = some b := hb
    have hid : id < k := by
      have := (List.getElem?_eq_some_iff.1 hb').1
      omega
    have hb0 : s.hp[id]? = some b := by rw [← hget id hid]; exact hb'
    have ho := hC.blk id b hb0
    have hs := hblk b (List.mem_of_getElem? hb')
    refine ⟨ho.pos, ho.rows, ho.cell, ho.cap, ho.capm, ?_⟩
    rcases ho.mem with h1 | ⟨g', ys', sp', h1, h2, h3, h4⟩
    · exact .inl h1
    · refine .inr ⟨g', ys', sp', h1, h2, h3, h4.mono_mem fun v x hm _ h => hkeep1 h ?_⟩
      obtain ⟨r, hr, hv⟩ := List.mem_flatten.1 hm
      rw [List.all_eq_true] at hs
      have := hs r hr
      rw [List.all_eq_true] at this
      exact this v hv
  · intro i g hi hg
    have hi' : i < k := by simp only at hi; omega
    refine ⟨?_, .inr ⟨i, by omega, hg⟩⟩
    rintro (h | ⟨j, h1, h2, h3⟩)
    · exact (hC.own i g (by omega) hg).1 h
    · have := hC.inj i j g (by omega) h2 hg h3
      omega
  · rintro b (h | ⟨j, h1, h2, h3⟩)
    · exact Nat.lt_of_lt_of_le (hC.xlt b h) hC.hsize
    · obtain ⟨o, ho, _⟩ := hC.ownCells (g := b) ⟨j, h2, h3⟩
      exact (Array.getElem?_eq_some_iff.1 ho).1
  · intro i b0 hb0
    obtain ⟨b, h1, h2⟩ := hC.lent i b0 hb0
    have : i < C.hp0.length := (List.getElem?_eq_some_iff.1 hb0).1
    exact ⟨b, by show (s.hp.take k)[i]? = _; rw [hget i (by omega)]; exact h1, h2⟩
theorem Conc.unpark (hC : Conc C s γ κ a W) {k : Nat} {s' : St} {γ' : Nat → Option Nat} {κ' : Nat → Nat} {a' : Act} {W' : World} (h : Conc (C.park W s γ k) s' γ' κ' a' W') : Conc C s' γ' κ' a' W' := by
  have hkeep : Keep (s'.mm (C.park W s γ k) γ' κ' W') (s'.mm C γ' κ' W') := by
    refine ⟨fun b hb _ => ⟨rfl, ?_⟩, fun id b hb => ⟨b, hb, rfl, Nat.le_refl _, fun _ => ⟨rfl, rfl⟩⟩⟩
    rintro (h1 | h1)
    · exact hb (.inl (.inl h1))
    · exact hb (.inr h1)
  refine ⟨h.size, h.defers, ?_, ?_, h.inj, ?_, hC.xlt, ?_, h.hos.trans hC.hos, h.htape.trans hC.htape, h.hout.trans hC.hout, Nat.le_trans hC.hsize h.hsize, h.lent⟩
  · intro t v hv
    obtain ⟨x, h1, h2⟩ := h.env t v hv
    exact ⟨x, h1, h2.keep hkeep⟩
  · intro id b hb
    have ho := h.blk id b hb
    refine ⟨ho.pos, ho.rows, ho.cell, ho.cap, ho.capm, ?_⟩
    rcases ho.mem with h1 | ⟨g', ys', sp', h1, h2, h3, h4⟩
    · exact .inl h1
    · exact .inr ⟨g', ys', sp', h1, h2, h3, h4.mono fun v x h => h.keep hkeep⟩
  · intro id g hi hg
    obtain ⟨h1, h2⟩ := h.own id g hi hg
    refine ⟨fun hx => h1 (.inl hx), ?_⟩
    rcases h2 with h2 | ⟨i, h3, h4⟩
    · exact .inl (Nat.le_trans hC.hsize h2)
    · exact (hC.own i g h3 h4).2
  · intro b hb hm
    refine (h.old b (Nat.lt_of_lt_of_le hb hC.hsize) ?_).trans (hC.old b hb hm)
    rintro ⟨i, h1, h2⟩
    rcases (hC.own i b h1 h2).2 with h3 | h3
    · exact absurd hb (by omega)
    · exact hm h3
/-- Boxes that are hidden, and may be turned, are turned. -/
theorem Conc.pk {Pk : Nat → Prop} {W' : World} (hC : Conc C s γ κ a W) (hp : PkStep Pk W W') (hx : ∀ b, Pk b → C.X b ∧ C.may b) : Conc C s γ κ a W' := by
  have hkeep : Keep (s.mm C γ κ W) (s.mm C γ κ W') := by
    refine ⟨fun b hb _ => ⟨hp.same b fun h => hb (.inl (hx b h).1), hb⟩, fun id b hb => ⟨b, hb, rfl, Nat.le_refl _, fun _ => ⟨rfl, rfl⟩⟩⟩
  refine ⟨hC.size, hC.defers, ?_, ?_, hC.inj, hC.own, hC.xlt, ?_, hp.os.trans hC.hos, hp.tape.trans hC.htape, hp.out.trans hC.hout, hp.size ▸ hC.hsize, hC.lent⟩
  · intro t v hv
    obtain ⟨x, h1, h2⟩ := hC.env t v hv
    exact ⟨x, h1, h2.keep hkeep⟩
  · intro id b hb
    have ho := hC.blk id b hb
    have hid : id < s.hp.length := (List.getElem?_eq_some_iff.1 hb).1
    refine ⟨ho.pos, ho.rows, ho.cell, ho.cap, ho.capm, ?_⟩
    rcases ho.mem with h1 | ⟨g', ys', sp', h1, h2, h3, h4⟩
    · exact .inl h1
    · exact .inr ⟨g', ys', sp', h1, (hp.same g' fun h => (hC.own id g' hid h1).1 (hx _ h).1).trans h2, h3, h4.mono fun v x h => h.keep hkeep⟩
  · intro b hb hm
    exact (hp.same b fun h => hm (hx b h).2).trans (hC.old b hb hm)
end
end Go.Proofs.YtjjdabihnmilgaaGreat.A
