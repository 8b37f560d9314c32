/- Contracts: slices.Replace in the middle, lifted. -/
import Derived.Test.YtmhejcnaanocpaaGreatXAskGrpAV
import Derived.Test.YtmhejcnaanocpaaGreatXAskGrpAR
import Derived.Test.YtmhejcnaanocpaaGreatXAskGrpAS
namespace Go.Proofs.YtmhejcnaanocpaaGreat.A
open Go.Shelf Go.RowKit Go.Lib
set_option linter.unusedVariables false
set_option linter.unusedSimpArgs false
theorem spliceA {α : Type} (ys sp vs D Z : List α) (i m t : Nat) (hm : vs.length = m) (hi : i ≤ ys.length) (ht : t = i + m + D.length) (hz : t + Z.length = ys.length) :
    (((((ys ++ sp).take i ++ vs ++ (ys ++ sp).drop (i + m)).take (i + m) ++ D ++ ((ys ++ sp).take i ++ vs ++ (ys ++ sp).drop (i + m)).drop (i + m + D.length)).take t) ++ Z ++ ((((ys ++ sp).take i ++ vs ++ (ys ++ sp).drop (i + m)).take (i + m) ++ D ++ ((ys ++ sp).take i ++ vs ++ (ys ++ sp).drop (i + m)).drop (i + m + D.length)).drop (t + Z.length))) = (ys.take i ++ vs ++ D ++ Z) ++ sp := by
  have h1 : (ys ++ sp).take i = ys.take i := List.take_append_of_le_length hi
  have h2 : (ys.take i ++ vs).length = i + m := by simp; omega
  rw [h1]
  rw [List.take_left' (l₁ := ys.take i ++ vs) (l₂ := (ys ++ sp).drop (i + m)) h2]
  rw [show (ys.take i ++ vs ++ (ys ++ sp).drop (i + m)).drop (i + m + D.length) = (ys ++ sp).drop (i + m + D.length) by
    rw [List.drop_append, h2, List.drop_eq_nil_of_le (by omega), List.nil_append, List.drop_drop]
    congr 1; omega]
  have h3 : (ys.take i ++ vs ++ D).length = t := by rw [List.length_append, h2, ht]
  rw [List.take_left' h3]
  rw [show (ys.take i ++ vs ++ D ++ (ys ++ sp).drop (i + m + D.length)).drop (t + Z.length) = sp by
    rw [List.drop_append, h3, List.drop_eq_nil_of_le (by omega), List.nil_append, List.drop_drop, ← ht, show t + (t + Z.length - t) = ys.length by omega, List.drop_left' rfl]]
theorem spliceB {α : Type} (ys sp vs D : List α) (i m : Nat) (hm : vs.length = m) (hi : i ≤ ys.length) (ht : ys.length ≤ i + m + D.length) (hr : i + m ≤ ys.length + sp.length) :
    (((ys ++ sp).take (i + m) ++ D ++ (ys ++ sp).drop (i + m + D.length)).take i ++ vs ++ ((ys ++ sp).take (i + m) ++ D ++ (ys ++ sp).drop (i + m + D.length)).drop (i + m)) = (ys.take i ++ vs ++ D) ++ sp.drop (i + m + D.length - ys.length) := by
  have h1 : ((ys ++ sp).take (i + m)).length = i + m := by simp; omega
  rw [List.append_assoc ((ys ++ sp).take (i + m)), List.take_append_of_le_length (by omega), List.take_take, Nat.min_eq_left (by omega), List.take_append_of_le_length hi, List.drop_left' h1]
  rw [List.drop_append, show ys.drop (i + m + D.length) = [] from List.drop_eq_nil_of_le ht, List.nil_append]
  simp [List.append_assoc]
theorem spliceC {α : Type} (ys zs vs D : List α) (i m : Nat) (hm : vs.length = m) (hi : i ≤ ys.length) :
    ((((ys.take i ++ zs).take i ++ vs ++ (ys.take i ++ zs).drop (i + m)).take (i + m)) ++ D ++ ((ys.take i ++ zs).take i ++ vs ++ (ys.take i ++ zs).drop (i + m)).drop (i + m + D.length)) = (ys.take i ++ vs ++ D) ++ zs.drop (m + D.length) := by
  have hl : (ys.take i).length = i := by simp only [List.length_take]; omega
  have hl2 : (ys.take i ++ vs).length = i + m := by simp only [List.length_append, hl, hm]
  rw [List.take_left' hl, List.take_left' hl2, List.drop_append, hl2]
  rw [show (ys.take i ++ vs).drop (i + m + D.length) = [] from List.drop_eq_nil_of_le (by rw [hl2]; omega), List.nil_append]
  rw [show (ys.take i ++ zs).drop (i + m) = zs.drop m from by rw [show i + m = (ys.take i).length + m by rw [hl], List.drop_length_add_append], List.drop_drop]
  congr 2; omega
def midL (l v : List Int) (i j : Nat) : List Int := l.take i ++ v ++ l.drop j ++ List.replicate (l.length - (i + v.length + (l.length - j))) 0
theorem qlr (l v : List Int) (i j : Nat) (hij : i ≤ j) (hj : j ≤ l.length) : (midL l v i j).length = i + v.length + (l.length - j) + (l.length - (i + v.length + (l.length - j))) := by
  unfold midL
  simp only [List.length_append, List.length_take, List.length_drop, List.length_replicate]
  omega
set_option maxHeartbeats 4000000 in
set_option maxRecDepth 100000 in
theorem coreMidU {C : Cx} {s : St} {γ : Nat → Option Nat} {κ : Nat → Nat} {a : Act} {W : World} (hC : Conc C s γ κ a W) {id : Nat} {l v : List Int} (hb : s.hp[id]? = some ⟨55, 1, l.map (cK .u16)⟩) {i j : Nat} (hij : i < j) (hj : j < l.length) (hl : l.length ≤ 1000000000) (hv : v.length ≤ 1000000000)
    {vA : Option Addr} {vc : Nat} (hV : v.length = 0 ∨ ∃ vb voff, vA = some ⟨vb, voff, none⟩ ∧ γ id ≠ some vb ∧ ∀ k y, (v.map (Value.int .u16))[k]? = some y → W.cell? ⟨vb, voff + k, none⟩ = some y) :
    Calls Tryz.prog 155 #[.slice ((γ id).map fun g => ⟨g, 0, none⟩) l.length (κ id), .int .i64 i, .int .i64 j, .slice vA v.length vc] W fun e W' => ∃ x γ' κ', e = .returned x ∧
      Conc C ⟨s.env, s.hp.set id ⟨55, 1, (midL l v i j).map (cK .u16)⟩⟩ γ' κ' a W' ∧ RepA (St.mm ⟨s.env, s.hp.set id ⟨55, 1, (midL l v i j).map (cK .u16)⟩⟩ C γ' κ' W') (.sub id (midL l v i j).length 0 (i + v.length + (l.length - j))) x := by
  have hid : id < s.hp.length := (List.getElem?_eq_some_iff.1 hb).1
  obtain ⟨g, sp, hg, hmem, hcap⟩ := ownU hC hb (fun e => by rw [e] at hj; simp at hj)
  have hmax' : κ id ≤ maxLen := (hC.blk id _ hb).capm
  have hc63 : κ id ≤ 9223372036854775807 := by unfold maxLen at hmax'; omega
  rw [hg]
  have hcell : ∀ j, W.cell? ⟨g, j, none⟩ = (l.map (Value.int .u16) ++ sp)[j]? := fun j => by rw [qac hmem]; simp
  have hcs : ∀ j y, (l.map (Value.int .u16))[j]? = some y → W.cell? ⟨g, j, none⟩ = some y := fun j y hy => by
    rw [hcell, List.getElem?_append_left (List.getElem?_eq_some_iff.1 hy).1]; exact hy
  have h1c : ∀ u : List Int, ∀ y ∈ u.map (Value.int .u16), y.oneCell' = true := by
    intro u y hy
    obtain ⟨z, _, rfl⟩ := List.mem_map.1 hy
    rfl
  obtain ⟨t, ht⟩ : ∃ t, i + v.length + (l.length - j) = t := ⟨_, rfl⟩
  have hml := qlr l v i j (by omega) (by omega)
  rw [ht] at hml ⊢
  have hnew : ((midL l v i j).map (cK .u16)).length = (midL l v i j).length := List.length_map _
  have hrep : All2 (RepA (s.mm C γ κ W)) ((midL l v i j).map (cK .u16)).flatten ((midL l v i j).map (Value.int .u16)) := qfr _ _
  have e2 : (l.map (Value.int .u16)).take i ++ v.map (Value.int .u16) ++ (l.map (Value.int .u16)).drop j ++ List.replicate (l.length - t) (Value.int .u16 0) = (midL l v i j).map (Value.int .u16) := by
    unfold midL; rw [ht]; simp
  have hsub : ∀ {γ' : Nat → Option Nat} {κ' : Nat → Nat} {W' : World} {g' k' : Nat}, γ' id = some g' → t ≤ k' → RepA (St.mm ⟨s.env, s.hp.set id ⟨55, 1, (midL l v i j).map (cK .u16)⟩⟩ C γ' κ' W') (.sub id (midL l v i j).length 0 t) (.slice (some ⟨g', 0, none⟩) t k') := by
    intro γ' κ' W' g' k' h1 h2
    refine .sub id _ 0 _ ⟨55, 1, (midL l v i j).map (cK .u16)⟩ _ _ (List.getElem?_set_self hid) (Nat.le_of_eq hnew.symm) (fun _ => ⟨by omega, fun _ => ⟨g', h1, by simp⟩⟩) h2
  have hdl : ((l.map (Value.int .u16)).drop j).length = l.length - j := by simp
  have hvl : (v.map (Value.int .u16)).length = v.length := by simp
  have hll : (l.map (Value.int .u16)).length = l.length := by simp
  have hspc : ∀ k, k < κ id → (W.cell? ⟨g, k, none⟩).isSome = true := fun k hk => by
    rw [hcell, List.getElem?_eq_getElem (by simp only [List.length_append, List.length_map]; omega)]; rfl
  by_cases hle : i + v.length ≤ j
  · have hV' : VSrc g vA v.length (v.map (Value.int .u16)) W := by
      rcases hV with h | ⟨vb, voff, h1, h2, h3⟩
      · exact .inl h
      · exact .inr ⟨vb, voff, h1, fun e => h2 (by rw [hg, e]), h3⟩
    refine (qdc g l.length (κ id) i j v.length vc vA _ _ W hij hj hle (by omega) hc63 hll hvl hcs hspc (fun k => qa3 hmem k) hV' (h1c l) (h1c v)).mono ?_
    rintro e W' ⟨rfl, q, rfl⟩
    rw [ht]
    have h1 := ql (v.map (Value.int .u16)) i (W.drewN q) _ hmem (by simp only [List.length_append, List.length_map]; omega)
    have h2 := ql ((l.map (Value.int .u16)).drop j) (i + v.length) ((W.drewN q).setCells g i (v.map (Value.int .u16))).drew _ h1 (by simp only [List.length_append, List.length_map, List.length_drop, List.length_take]; omega)
    have h3 := ql (List.replicate (l.length - t) (Value.int .u16 0)) t _ _ h2 (by simp only [List.length_append, List.length_map, List.length_take, List.length_drop, List.length_replicate]; omega)
    rw [hvl, spliceA (l.map (Value.int .u16)) sp (v.map (Value.int .u16)) ((l.map (Value.int .u16)).drop j) (List.replicate (l.length - t) (Value.int .u16 0)) i v.length t hvl (by omega) (by omega) (by rw [List.length_replicate]; omega), e2] at h3
    have hs1 := qh g (v.map (Value.int .u16)) i (W.drewN q)
    have hs2 := qh g ((l.map (Value.int .u16)).drop j) (i + v.length) ((W.drewN q).setCells g i (v.map (Value.int .u16))).drew
    have hs3 := qh g (List.replicate (l.length - t) (Value.int .u16 0)) t (((W.drewN q).setCells g i (v.map (Value.int .u16))).drew.setCells g (i + v.length) ((l.map (Value.int .u16)).drop j))
    obtain ⟨γ', κ', k1, k2, k3⟩ := hC.swap (b := ⟨55, 1, l.map (cK .u16)⟩) hb (g' := g) (k' := κ id) (rows' := (midL l v i j).map (cK .u16)) h3
      (fun x hx _ => (qj g x hx _ _ _).trans ((qj g x hx _ _ _).trans (qj g x hx _ _ _))) (by rw [hs3.2.2.2, hs2.2.2.2]; show _ ≤ ((W.drewN q).setCells g i (v.map (Value.int .u16))).heap.size; rw [hs1.2.2.2]; exact Nat.le_refl _) (hs3.1.trans (hs2.1.trans hs1.1)) (hs3.2.1.trans (hs2.2.1.trans hs1.2.1)) (hs3.2.2.1.trans (hs2.2.2.1.trans hs1.2.2.1)) (.inl hg)
      (fun _ => ⟨hg, rfl⟩) (by rw [hnew, hml, List.length_map]; omega) (qcy _) (qb1 _) (by rw [hnew, hml]; omega) hmax' (by simp only [List.length_append, List.length_map, hml]; show _ = κ id * 1; omega) hrep
    exact ⟨_, γ', κ', rfl, k1, hsub k2 (by omega)⟩
  · obtain ⟨vb, voff, rfl, hvb, hvs⟩ : ∃ vb voff, vA = some ⟨vb, voff, none⟩ ∧ γ id ≠ some vb ∧ ∀ k y, (v.map (Value.int .u16))[k]? = some y → W.cell? ⟨vb, voff + k, none⟩ = some y := by
      rcases hV with h | h
      · omega
      · exact h
    have hz : l.length - t = 0 := by omega
    rw [hz, List.replicate_zero, List.append_nil] at e2
    by_cases hroom : t ≤ κ id
    · refine (qdd g l.length (κ id) i j v.length vc _ _ _ W hij hj (by omega) (by omega) (by omega) hc63 hll hvl hcs hspc (fun k => qa3 hmem k) rfl (fun e => hvb (by rw [hg, e])) hvs (h1c l) (h1c v)).mono ?_
      rintro e W' ⟨rfl, q, rfl⟩
      rw [ht]
      have h1 := ql ((l.map (Value.int .u16)).drop j) (i + v.length) (W.drewN q) _ hmem (by simp only [List.length_append, List.length_map, List.length_drop]; omega)
      have h2 := ql (v.map (Value.int .u16)) i _ _ h1 (by simp only [List.length_append, List.length_map, List.length_drop, List.length_take]; omega)
      rw [hvl, spliceB (l.map (Value.int .u16)) sp (v.map (Value.int .u16)) ((l.map (Value.int .u16)).drop j) i v.length hvl (by omega) (by omega) (by omega), e2] at h2
      have hs1 := qh g ((l.map (Value.int .u16)).drop j) (i + v.length) (W.drewN q)
      have hs2 := qh g (v.map (Value.int .u16)) i ((W.drewN q).setCells g (i + v.length) ((l.map (Value.int .u16)).drop j))
      obtain ⟨γ', κ', k1, k2, k3⟩ := hC.swap (b := ⟨55, 1, l.map (cK .u16)⟩) hb (g' := g) (k' := κ id) (rows' := (midL l v i j).map (cK .u16)) h2
        (fun x hx _ => (qj g x hx _ _ _).trans (qj g x hx _ _ _)) (by rw [hs2.2.2.2, hs1.2.2.2]; exact Nat.le_refl _) (hs2.1.trans hs1.1) (hs2.2.1.trans hs1.2.1) (hs2.2.2.1.trans hs1.2.2.1) (.inl hg)
        (fun _ => ⟨hg, rfl⟩) (by rw [hnew, hml, List.length_map]; omega) (qcy _) (qb1 _) (by rw [hnew, hml]; omega) hmax' (by simp only [List.length_append, List.length_map, List.length_drop, hml]; show _ = κ id * 1; omega) hrep
      exact ⟨_, γ', κ', rfl, k1, hsub k2 (by omega)⟩
    · refine (qeh g l.length (κ id) i j vb voff v.length vc _ _ W hij hj (by omega) (by omega) (by omega) (by omega) hll hvl hcs hvs (h1c l) (h1c v)).mono ?_
      rintro e W' ⟨q, rfl, rfl⟩
      rw [ht]
      have hge := grownCap_ge (W.drewN q) t (κ id) 55
      have hcm := grownCap_le_maxLen (W.drewN q) t (κ id) 55 (by unfold maxLen; omega)
      generalize grownCap (W.drewN q) t (κ id) 55 = G at hge hcm ⊢
      have h0 : ((W.drewN (q + 1)).alloc (.cells (((l.map (Value.int .u16)).take i).toArray ++ Builtin.zeroCells (Value.int .u16 0).cells (t - i) ++ Builtin.zeroCells (Value.int .u16 0).cells (G - t)) 55)).heap[W.heap.size]? = some (.cells (((l.map (Value.int .u16)).take i ++ (Builtin.zeroCells (Value.int .u16 0).cells (t - i) ++ Builtin.zeroCells (Value.int .u16 0).cells (G - t)).toList).toArray) 55 (0, 0)) := by
        have := qv (W.drewN (q + 1)) (.cells (((l.map (Value.int .u16)).take i).toArray ++ Builtin.zeroCells (Value.int .u16 0).cells (t - i) ++ Builtin.zeroCells (Value.int .u16 0).cells (G - t)) 55 (0, 0))
        refine Eq.trans this ?_
        congr 2
        apply Array.toList_inj.1; simp
      have hzl : (Builtin.zeroCells (Value.int .u16 0).cells (t - i) ++ Builtin.zeroCells (Value.int .u16 0).cells (G - t)).toList.length = G - i := by
        simp [size_zeroCells, Value.cells]; omega
      generalize (Builtin.zeroCells (Value.int .u16 0).cells (t - i) ++ Builtin.zeroCells (Value.int .u16 0).cells (G - t)).toList = zs at h0 hzl
      have hA1 : ∀ x, x < W.heap.size → ((W.drewN (q + 1)).alloc (.cells (((l.map (Value.int .u16)).take i).toArray ++ Builtin.zeroCells (Value.int .u16 0).cells (t - i) ++ Builtin.zeroCells (Value.int .u16 0).cells (G - t)) 55)).heap[x]? = W.heap[x]? := fun x hx => Below.heap_alloc (W.drewN (q + 1)) _ x hx
      have hA2 : ((W.drewN (q + 1)).alloc (.cells (((l.map (Value.int .u16)).take i).toArray ++ Builtin.zeroCells (Value.int .u16 0).cells (t - i) ++ Builtin.zeroCells (Value.int .u16 0).cells (G - t)) 55)).heap.size = W.heap.size + 1 := by
        show (W.heap.push _).size = _
        simp
      have hA3 : ((W.drewN (q + 1)).alloc (.cells (((l.map (Value.int .u16)).take i).toArray ++ Builtin.zeroCells (Value.int .u16 0).cells (t - i) ++ Builtin.zeroCells (Value.int .u16 0).cells (G - t)) 55)).os = W.os ∧ ((W.drewN (q + 1)).alloc (.cells (((l.map (Value.int .u16)).take i).toArray ++ Builtin.zeroCells (Value.int .u16 0).cells (t - i) ++ Builtin.zeroCells (Value.int .u16 0).cells (G - t)) 55)).tape = W.tape ∧ ((W.drewN (q + 1)).alloc (.cells (((l.map (Value.int .u16)).take i).toArray ++ Builtin.zeroCells (Value.int .u16 0).cells (t - i) ++ Builtin.zeroCells (Value.int .u16 0).cells (G - t)) 55)).output = W.output := ⟨rfl, rfl, rfl⟩
      generalize (W.drewN (q + 1)).alloc (.cells (((l.map (Value.int .u16)).take i).toArray ++ Builtin.zeroCells (Value.int .u16 0).cells (t - i) ++ Builtin.zeroCells (Value.int .u16 0).cells (G - t)) 55) = WA at h0 hA1 hA2 hA3 ⊢
      have h1 := ql (v.map (Value.int .u16)) i WA _ h0 (by simp only [List.length_append, List.length_map, List.length_take]; omega)
      have hs1 := qh W.heap.size (v.map (Value.int .u16)) i WA
      have hf1 := fun x hx => qj W.heap.size x hx (v.map (Value.int .u16)) i WA
      have hB : (WA.setCells W.heap.size i (v.map (Value.int .u16))).drew.heap = (WA.setCells W.heap.size i (v.map (Value.int .u16))).heap ∧ (WA.setCells W.heap.size i (v.map (Value.int .u16))).drew.os = (WA.setCells W.heap.size i (v.map (Value.int .u16))).os ∧ (WA.setCells W.heap.size i (v.map (Value.int .u16))).drew.tape = (WA.setCells W.heap.size i (v.map (Value.int .u16))).tape ∧ (WA.setCells W.heap.size i (v.map (Value.int .u16))).drew.output = (WA.setCells W.heap.size i (v.map (Value.int .u16))).output := ⟨rfl, rfl, rfl, rfl⟩
      generalize (WA.setCells W.heap.size i (v.map (Value.int .u16))).drew = WB at hB ⊢
      generalize WA.setCells W.heap.size i (v.map (Value.int .u16)) = WB' at hB h1 hs1 hf1
      rw [← hB.1] at h1
      have h2 := ql ((l.map (Value.int .u16)).drop j) (i + v.length) WB _ h1 (by simp only [List.length_append, List.length_map, List.length_take, List.length_drop]; omega)
      rw [hvl, spliceC (l.map (Value.int .u16)) zs (v.map (Value.int .u16)) ((l.map (Value.int .u16)).drop j) i v.length hvl (by omega), e2] at h2
      have hs2 := qh W.heap.size ((l.map (Value.int .u16)).drop j) (i + v.length) WB
      have hf2 := fun x hx => qj W.heap.size x hx ((l.map (Value.int .u16)).drop j) (i + v.length) WB
      obtain ⟨γ', κ', k1, k2, k3⟩ := hC.swap (b := ⟨55, 1, l.map (cK .u16)⟩) hb (g' := W.heap.size) (k' := G) (rows' := (midL l v i j).map (cK .u16)) h2
        (fun x hx hlt => (hf2 x hx).trans ((by rw [hB.1]; exact hf1 x hx : WB.heap[x]? = WA.heap[x]?).trans (hA1 x hlt))) (by rw [hs2.2.2.2, hB.1, hs1.2.2.2, hA2]; omega) (hs2.1.trans (hB.2.1.trans (hs1.1.trans hA3.1))) (hs2.2.1.trans (hB.2.2.1.trans (hs1.2.1.trans hA3.2.1))) (hs2.2.2.1.trans (hB.2.2.2.trans (hs1.2.2.1.trans hA3.2.2))) (.inr (Nat.le_refl _))
        (fun e => by have e' : (l.map (cK .u16)).length = _ := e; rw [hnew, hml, List.length_map] at e'; omega) (by rw [hnew, hml, List.length_map]; omega) (qcy _) (qb1 _) (by rw [hnew, hml]; omega) hcm (by simp only [List.length_append, List.length_map, List.length_drop, hml, hzl]; show _ = G * 1; omega) hrep
      exact ⟨_, γ', κ', rfl, k1, hsub k2 hge⟩
open Go.RowKit
set_option maxRecDepth 100000
set_option maxHeartbeats 4000000
theorem call180 : Callable Tryz.prog 180 := fun vs w => by
  unfold callFunc
  have hp : (program).run Tryz.prog w = .ok Tryz.prog w := rfl
  rw [run_bind hp, Tryz.func180]
  rfl
theorem qg3 {M : Mm} {v : List Int} {x : Value} (h : RepA M (.imm (.sl (v.map u16))) x) : ∃ vA vc, x = .slice vA v.length vc ∧ (v.length = 0 ∨ ∃ vb voff, vA = some ⟨vb, voff, none⟩ ∧ ¬ M.N vb ∧ ∀ k y, (v.map (Value.int .u16))[k]? = some y → M.W.cell? ⟨vb, voff + k, none⟩ = some y) := by
  cases h with
  | imm _ _ h =>
    generalize hr : v.map u16 = rows at h
    cases h with
    | nil A c =>
      have hv : v = [] := List.map_eq_nil_iff.1 hr
      subst hv
      exact ⟨A, c, rfl, .inl rfl⟩
    | sl _ ad n c sz ys g0 hsz hn hc hb hrl hyc hrep =>
      subst hr
      have hlen : n = v.length := by rw [hn, List.length_map]
      subst hlen
      have e : ys = v.map (Value.int .u16) := by
        have key : ∀ {l : List Int} {zs : List Value}, All2 (RepI M.W M.N) (l.map u16).flatten zs → zs = l.map (Value.int .u16) := by
          intro l
          induction l with
          | nil => intro zs h; cases h; rfl
          | cons a l ih =>
            intro zs h
            cases h with
            | cons h1 h2 => rw [h1.int_inv, ih h2]; rfl
        exact key hrep
      subst e
      obtain ⟨blk, off, spot⟩ := ad
      have h0 : v ≠ [] := fun e => g0 (by rw [e]; rfl)
      have hs : spot = none := by
        have := hyc 0 ((v.map (Value.int .u16))[0]'(by simpa using List.length_pos_iff.2 h0)) (List.getElem?_eq_getElem _)
        obtain ⟨_, _, _, _, h⟩ := Go.Proofs.YtmhejcnaanocpaaGreat.A.cell_shape this
        unfold Addr.add at h
        cases spot with
        | none => rfl
        | some z => simp at h
      subst hs
      refine ⟨_, c, rfl, .inr ⟨blk, off, rfl, hb, fun k y hk => ?_⟩⟩
      have := hyc k y hk
      rwa [Addr.add_lit] at this
theorem GenC.sub {P : Program} {f : FuncId} {hp0 : List Blk} {args : List AV} {n : Nat} {b : Blk} (h : GenC P f hp0 args (.os 0 n) [b]) (hn : n = b.rows.length) (h0 : 0 < n) : GenC P f hp0 args (.sub 0 n 0 n) [b] := by
  refine ⟨h.1, fun W X γ κ xs hC hargs => (h.2 W X γ κ xs hC hargs).mono ?_⟩
  rintro e W' ⟨x, γ', κ', he, hC', hr⟩
  refine ⟨x, γ', κ', he, hC', ?_⟩
  have hb : ([b] : List Blk)[0]? = some b := rfl
  have e1 := hr.os_val hb hn
  subst e1
  have hB := hC'.blk 0 b hb
  rcases hB.mem with ⟨h1, h2, h3⟩ | ⟨g, ys, sp, h1, h2, h3, h4⟩
  · rw [hn, h2] at h0
    cases h0
  · refine .sub 0 n 0 n b _ _ hb (Nat.le_of_eq hn) (fun _ => ⟨by omega, fun _ => ⟨g, h1, ?_⟩⟩) ?_
    · have h1' : γ' 0 = some g := h1
      show (Option.map _ (γ' 0)) = _
      rw [h1']; simp
    · rw [hn]; exact hB.cap
theorem qot (l v : List Int) (i : Int) (h0 : 0 ≤ i) (h1 : i < l.length) (hm : v ≠ []) (hl : l.length ≤ 1000000000) (hv : v.length ≤ 1000000000) : GenC Tryz.prog 180 [⟨55, 1, l.map cU⟩] [.os 0 l.length, iav i, .imm (.sl (v.map u16))] (.os 0 (l.length + v.length)) [⟨55, 1, (l.take i.toNat ++ v ++ l.drop i.toNat).map cU⟩] := by
  refine ⟨call180, fun W X γ κ xs hC hargs => ?_⟩
  obtain ⟨k, rfl⟩ : ∃ k : Nat, i = k := ⟨i.toNat, by omega⟩
  have hm0 : 0 < v.length := List.length_pos_iff.2 hm
  cases hargs with
  | cons a0 t =>
    cases t with
    | cons a1 t =>
      cases t with
      | cons a2 t =>
        cases t
        have e0 := a0.os_val (b := ⟨55, 1, l.map cU⟩) rfl (by simp)
        have e1 := qca a1
        obtain ⟨vA, vc, e2, hV⟩ := qg3 a2
        rcases hV with hV | ⟨vb, voff, rfl, hN, hcell⟩
        · omega
        · subst e0 e1 e2
          exact coreU hC (id := 0) (l := l) (v := v) (i := k) rfl (by omega) hm0 hl hv (fun e => hN (.inr ⟨0, by simp, e⟩)) hcell
theorem srcUb {C : Cx} {s : St} {tx : TypeId} {y : Operand} (hT : TsOK C.P tab) {i : TI} (hi : look tab tx = some i) {e : TypeId} (hk : i.kd = .sl e) (d : List Int) (hy : s.ev y = some (.imm (.sl (d.map u16)))) : SrcA C s ti55 tx y (d.map cU) := by
  have := SrcA.imm (ie := ti55) hT hi hk hy (fun r hr => by
    obtain ⟨q, _, rfl⟩ := List.mem_map.1 hr
    rfl)
  rw [List.map_map] at this
  exact this
theorem qou (l v : List Int) (hm : v ≠ []) (hl : l.length ≤ 1000000000) (hv : v.length ≤ 1000000000) : GenC Tryz.prog 180 [⟨55, 1, l.map cU⟩] [.os 0 l.length, iav l.length, .imm (.sl (v.map u16))] (.os 0 (l.length + v.length)) [⟨55, 1, (l ++ v).map cU⟩] := by
  have hm0 : 0 < v.length := List.length_pos_iff.2 hm
  have hmv : (v.map u16).length = v.length := List.length_map _
  refine yaj tabs Tryz.func180 95 [.tmp 6] rfl rfl rfl rfl rfl ?_; intro w0 X γ κ
  (repeat' (first | ((with_reducible show AL _ _ _ _ _); first | refine yad rfl (ybe (n := l.length) tabs rfl rfl rfl rfl rfl (qoe (b := ⟨55, 1, l.map cU⟩) rfl rfl (by simp)) rfl rfl) rfl ?_ | (refine AL.step tabs rfl ?_; try dsimp only [len, List.nil_append, List.cons_append]) | refine yad rfl (yau (b := ⟨55, 1, l.map cU⟩) tabs rfl rfl rfl rfl rfl rfl (by simp)) rfl ?_ | refine yad rfl (yar (ie := ti55) (xs := l) (ys := v) (g := cU) (ty := 55) (sz := 1) tabs rfl rfl rfl rfl rfl rfl rfl rfl rfl rfl (srcUb tabs rfl rfl v rfl) (by simp only [ti55]; omega) (by omega)) rfl ?_ | refine ym ?_ | (refine AL.op rfl (yi rfl rfl rfl rfl rfl (by omega) (by omega)) ?_)) | ((with_reducible show DQ _ _ _ _ _ _); first | refine DQ.stepc (LS.val tabs rfl rfl rfl) rfl rfl rfl rfl rfl ?_ | refine DQ.stepc (yab rfl rfl) rfl rfl rfl rfl rfl ?_ | refine DQ.nilM (by kernel_rfl) ?_ | refine DQ.stepc (yaf rfl rfl rfl rfl rfl rfl (by omega) (by omega)) rfl rfl rfl rfl rfl ?_) | (exfalso; omega) | refine yn ?_ | refine yc ?_ | refine ya ?_ | refine yf ?_ | refine yh rfl ?_ | refine yg rfl ?_ | (refine yk rfl (fun hc => ?_) (fun hc => ?_) <;> (try simp only [hsx] at hc) <;> (try first | omega | contradiction | (simp [qa] at hc; done))) | refine yo ?_ | refine yd ?_ | refine yx mixed (by kernel_rfl) ?_))
  exact yam 1 rfl (by rw [List.length_append]; rfl) rfl rfl (by simp only [List.all_cons, List.all_nil, Bool.and_true, List.all_map, Function.comp_def, cU, AV.sc1, AV.sc0, qf]) (by simp [cxG])
theorem qjy (b n c i m vc : Nat) (vA : Option Addr) (w : World) (Post : Ending → World → Prop) (hi : i ≤ n) (hnc : n ≤ c) (h : Calls Tryz.prog 180 #[.slice (some ⟨b, 0, none⟩) n c, .int .i64 i, .slice vA m vc] w Post) (hret : ∀ e w', Post e w' → ∃ x, e = .returned x) :
    Calls Tryz.prog 155 #[.slice (some ⟨b, 0, none⟩) n c, .int .i64 i, .int .i64 i, .slice vA m vc] w Post := by
  have mixed : Tryz.prog.follows .mixedOrders = true := by kernel_rfl
  have tS : Tryz.prog.underlying 36 = some (.slice 55) := Tryz.underlying36
  have tI : Tryz.prog.underlying 3 = some (.int .i64) := Tryz.underlying3
  have iE : (Tryz.prog.info? 55).map (fun i => (i.zero, i.size, i.bytes)) = some (some (Value.int .u16 0), 1, 2) := by kernel_rfl
  obtain ⟨i0, hi0, hz0, hzs, hzb⟩ := info_parts iE
  have hic : i ≤ c := by omega
  go_enter Tryz.func155, Tryz.ntmps155
  go_wp2_with (go_at_call 180; (with_reducible refine h.mono ?_); rintro e w' he; obtain ⟨x, hx⟩ := hret e w' he; subst hx)
  all_goals exact he
theorem qm3 (l v all : List Int) (i : Int) (N : Nat) (h0 : 0 ≤ i) (h1 : i ≤ l.length) (hne : l ≠ []) (h : GenC Tryz.prog 180 [⟨55, 1, l.map cU⟩] [.os 0 l.length, iav i, .imm (.sl (v.map u16))] (.os 0 N) [⟨55, 1, all.map cU⟩]) : GenC Tryz.prog 155 [⟨55, 1, l.map cU⟩] [.os 0 l.length, iav i, iav i, .imm (.sl (v.map u16))] (.os 0 N) [⟨55, 1, all.map cU⟩] := by
  refine ⟨call155, fun W X γ κ xs hC hargs => ?_⟩
  obtain ⟨k, rfl⟩ : ∃ k : Nat, i = k := ⟨i.toNat, by omega⟩
  cases hargs with
  | cons a0 t =>
    cases t with
    | cons a1 t =>
      cases t with
      | cons a2 t =>
        cases t with
        | cons a3 t =>
          cases t
          have hh := h.2 W X γ κ _ hC (.cons a0 (.cons a1 (.cons a3 .nil)))
          have e0 := a0.os_val (b := ⟨55, 1, l.map cU⟩) rfl (by simp)
          have e1 := qca a1
          have e2 := qca a2
          obtain ⟨vA, vc, e3, _⟩ := qg3 a3
          obtain ⟨g, sp, hg, hmem, hcap⟩ := ownU hC (id := 0) (l := l) rfl hne
          subst e0 e1 e2 e3
          have hg' : (St.mm ⟨[], [⟨55, 1, l.map cU⟩]⟩ (cxG Tryz.prog X [⟨55, 1, l.map cU⟩] γ κ W 0) γ κ W).γ 0 = some g := hg
          have hk' : (St.mm ⟨[], [⟨55, 1, l.map cU⟩]⟩ (cxG Tryz.prog X [⟨55, 1, l.map cU⟩] γ κ W 0) γ κ W).κ 0 = κ 0 := rfl
          rw [hg', hk'] at hh ⊢
          refine qjy g l.length (κ 0) k v.length vc vA W _ (by omega) (by omega) hh ?_
          rintro e w' ⟨x, _, _, he, _⟩
          exact ⟨x, he⟩
theorem qov (l v : List Int) (i j : Int) (h0 : 0 ≤ i) (hij : i < j) (h1 : j < l.length) (hl : l.length ≤ 1000000000) (hv : v.length ≤ 1000000000) : GenC Tryz.prog 155 [⟨55, 1, l.map cU⟩] [.os 0 l.length, iav i, iav j, .imm (.sl (v.map u16))] (.sub 0 (midL l v i.toNat j.toNat).length 0 (i.toNat + v.length + (l.length - j.toNat))) [⟨55, 1, (midL l v i.toNat j.toNat).map cU⟩] := by
  refine ⟨call155, fun W X γ κ xs hC hargs => ?_⟩
  obtain ⟨p, rfl⟩ : ∃ k : Nat, i = k := ⟨i.toNat, by omega⟩
  obtain ⟨q, rfl⟩ : ∃ k : Nat, j = k := ⟨j.toNat, by omega⟩
  cases hargs with
  | cons a0 t =>
    cases t with
    | cons a1 t =>
      cases t with
      | cons a2 t =>
        cases t with
        | cons a3 t =>
          cases t
          have e0 := a0.os_val (b := ⟨55, 1, l.map cU⟩) rfl (by simp)
          have e1 := qca a1
          have e2 := qca a2
          obtain ⟨vA, vc, e3, hV⟩ := qg3 a3
          subst e0 e1 e2 e3
          refine coreMidU hC (id := 0) (l := l) (v := v) (i := p) (j := q) rfl (by omega) (by omega) hl hv ?_
          rcases hV with hV | ⟨vb, voff, h1, h2, h3⟩
          · exact .inl hV
          · exact .inr ⟨vb, voff, h1, fun e => h2 (.inr ⟨0, by simp, e⟩), h3⟩
theorem qnv (l v : List Int) (i j : Int) (h0 : 0 ≤ i) (hij : i ≤ j) (h1 : j ≤ l.length) (hne : l ≠ []) (hn : i < j ∨ v ≠ []) (hl : l.length ≤ 1000000000) (hv : v.length ≤ 1000000000) :
    ∃ (all : List Int) (m : Nat), all.take m = l.take i.toNat ++ v ++ l.drop j.toNat ∧ GenC Tryz.prog 155 [⟨55, 1, l.map cU⟩] [.os 0 l.length, iav i, iav j, .imm (.sl (v.map u16))] (.sub 0 all.length 0 m) [⟨55, 1, all.map cU⟩] := by
  have hpos : 0 < l.length := List.length_pos_iff.2 hne
  by_cases he : i = j
  · subst he
    have hv0 : v ≠ [] := by rcases hn with h | h; omega; exact h
    have hvp : 0 < v.length := List.length_pos_iff.2 hv0
    by_cases hi : i < l.length
    · have hlen : (l.take i.toNat ++ v ++ l.drop i.toNat).length = l.length + v.length := by
        simp only [List.length_append, List.length_take, List.length_drop]; omega
      refine ⟨l.take i.toNat ++ v ++ l.drop i.toNat, l.length + v.length, List.take_of_length_le (by omega), ?_⟩
      have := (qm3 l v _ i _ h0 h1 hne (qot l v i h0 hi hv0 hl hv)).sub (by rw [List.length_map, hlen]) (by omega)
      rw [hlen]
      exact this
    · have hie : i = l.length := by omega
      subst hie
      have hlen : (l ++ v).length = l.length + v.length := List.length_append
      refine ⟨l ++ v, l.length + v.length, ?_, ?_⟩
      · rw [List.take_of_length_le (by omega)]; simp
      · have := (qm3 l v _ l.length _ h0 h1 hne (qou l v hv0 hl hv)).sub (by rw [List.length_map, hlen]) (by omega)
        rw [hlen]
        exact this
  · by_cases hj : j < l.length
    · refine ⟨midL l v i.toNat j.toNat, i.toNat + v.length + (l.length - j.toNat), ?_, qov l v i j h0 (by omega) hj hl hv⟩
      unfold midL
      rw [List.take_append_of_le_length (by simp only [List.length_append, List.length_take, List.length_drop]; omega), List.take_of_length_le (by simp only [List.length_append, List.length_take, List.length_drop]; omega)]
    · have hje : j = l.length := by omega
      subst hje
      refine ⟨repL l v i.toNat, i.toNat + v.length, ?_, qom l v i h0 (by omega) hl hv⟩
      unfold repL
      rw [List.take_append_of_le_length (by simp; omega), List.take_of_length_le (by simp; omega)]
      simp
theorem qib (f : List Node) (p : Int) (hf : Fit f) (hp : 0 ≤ p) (hp1 : p < f.length) (hk : (atI f p).data = []) : GenC Tryz.prog 70 [⟨44, 16, []⟩] [fav f] (.agg [.os 0 f.length]) [⟨44, 16, rowsD f p .nocap⟩] := by
  refine qe7 f (rowsD f p .nocap) hf (by omega) (qa7 _ _ _) ?_ ?_ fun i h0 h1 => ?_
  · rw [List.all_eq_true]
    intro r hr
    rcases qd5 hr with rfl | ⟨n, _, rfl⟩ <;> rfl
  · intro r hr
    rcases qd5 hr with rfl | ⟨n, _, rfl⟩ <;> rfl
  · rw [qch f p _ hp hp1 i h0 h1]
    by_cases e : i = p
    · rw [if_pos e, ← e]
      exact qfx (atI f i) (hf.atI i h0 h1) (by rw [e]; exact hk)
    · rw [if_neg e]
      exact qbf (atI f i) (hf.atI i h0 h1)
theorem qow (v : List Int) (hm : v ≠ []) (hv : v.length ≤ 1000000000) : GenC Tryz.prog 180 [⟨55, 1, []⟩] [.nocap, iav 0, .imm (.sl (v.map u16))] (.os 0 v.length) [⟨55, 1, v.map cU⟩] := by
  have hm0 : 0 < v.length := List.length_pos_iff.2 hm
  have hmv : (v.map u16).length = v.length := List.length_map _
  have hmc : (v.map cU).length = v.length := List.length_map _
  refine yaj tabs Tryz.func180 95 [.tmp 6] rfl rfl rfl rfl rfl ?_; intro w0 X γ κ
  (repeat' (first | ((with_reducible show AL _ _ _ _ _); first | refine yad rfl (ybe (n := 0) tabs rfl rfl rfl rfl rfl (qdg rfl) rfl rfl) rfl ?_ | (refine AL.step tabs rfl ?_; try dsimp only [len, List.nil_append, List.cons_append]) | refine yad rfl (yba tabs rfl rfl rfl rfl rfl) rfl ?_ | refine yad rfl (yax 0 (ie := ti55) tabs rfl rfl rfl rfl rfl (by decide) rfl rfl rfl (rows2 := v.map cU) (by simpa using hm) (srcUb tabs rfl rfl v rfl) (by simp only [ti55]; omega) (by omega)) rfl ?_ | refine ym ?_ | (refine AL.op rfl (yi rfl rfl rfl rfl rfl (by omega) (by omega)) ?_)) | ((with_reducible show DQ _ _ _ _ _ _); first | refine DQ.stepc (LS.val tabs rfl rfl rfl) rfl rfl rfl rfl rfl ?_ | refine DQ.stepc (yab rfl rfl) rfl rfl rfl rfl rfl ?_ | refine DQ.nilM (by kernel_rfl) ?_ | refine DQ.stepc (yaf rfl rfl rfl rfl rfl rfl (by omega) (by omega)) rfl rfl rfl rfl rfl ?_) | (exfalso; omega) | refine yn ?_ | refine yc ?_ | refine ya ?_ | refine yf ?_ | refine yh rfl ?_ | refine yg rfl ?_ | (refine yk rfl (fun hc => ?_) (fun hc => ?_) <;> (try simp only [hsx] at hc) <;> (try first | omega | contradiction | (simp [qa] at hc; done))) | refine yo ?_ | refine yd ?_ | refine yx mixed (by kernel_rfl) ?_))
  exact yam 1 rfl (by show AV.os 0 (v.map cU).length = _; rw [hmc]) rfl rfl (by simp only [List.all_cons, List.all_nil, Bool.and_true, List.all_map, Function.comp_def, cU, AV.sc1, AV.sc0, qf]) (by simp [cxG])
theorem qox (v : List Int) (hm : v ≠ []) (hv : v.length ≤ 1000000000) : GenC Tryz.prog 155 [⟨55, 1, []⟩] [.nocap, iav 0, iav 0, .imm (.sl (v.map u16))] (.os 0 v.length) [⟨55, 1, v.map cU⟩] := by
  have h := qow v hm hv
  refine yaj tabs Tryz.func155 224 [.tmp 8] rfl rfl rfl rfl rfl ?_; intro w0 X γ κ
  (repeat' (first | ((with_reducible show AL _ _ _ _ _); first | refine yad rfl (ybe (n := 0) tabs rfl rfl rfl rfl rfl (qdg rfl) rfl rfl) rfl ?_ | (refine AL.step tabs rfl ?_; try dsimp only [len, List.nil_append, List.cons_append]) | refine yac [0] 1 rfl rfl rfl rfl rfl (caps := []) rfl h rfl rfl rfl rfl rfl rfl (by simp only [List.all_cons, List.all_nil, List.all_map, Function.comp_def, cI, cB, cU, iav, bav, AV.sc1, AV.sc0, Bool.and_true, Bool.and_self, qf]; try rfl) rfl (hpA := [⟨55, 1, v.map cU⟩]) (by simp only [List.map_cons, List.map_nil, qbp]) (r' := .os 0 v.length) rfl rfl ?_ | refine ym ?_ | (refine AL.op rfl (yi rfl rfl rfl rfl rfl (by omega) (by omega)) ?_)) | ((with_reducible show DQ _ _ _ _ _ _); first | refine DQ.stepc (LS.val tabs rfl rfl rfl) rfl rfl rfl rfl rfl ?_ | refine DQ.stepc (yab rfl rfl) rfl rfl rfl rfl rfl ?_ | refine DQ.nilM (by kernel_rfl) ?_ | refine DQ.stepc (yaf rfl rfl rfl rfl rfl rfl (by omega) (by omega)) rfl rfl rfl rfl rfl ?_) | refine yn ?_ | refine yc ?_ | refine ya ?_ | refine yf ?_ | refine yh rfl ?_ | refine yg rfl ?_ | (refine yk rfl (fun hc => ?_) (fun hc => ?_) <;> (try simp only [hsx] at hc) <;> (try first | omega | contradiction | (simp [qa] at hc; done))) | refine yo ?_ | refine yd ?_ | refine yx mixed (by kernel_rfl) ?_))
  exact yam 1 rfl rfl rfl rfl (by simp only [List.all_cons, List.all_nil, List.all_map, Function.comp_def, cI, cB, cU, iav, bav, AV.sc1, AV.sc0, Bool.and_true, Bool.and_self, qf]; try rfl) (by simp [cxG])
theorem at_n (f : List Node) (p : Int) (hf : Fit f) (hp : 0 ≤ p) (hp1 : p < f.length) : GenC Tryz.prog 145 [⟨44, 16, rowsD f p .nocap⟩, ⟨55, 1, []⟩] [.agg [.os 0 f.length], iav (p + 1)] (.tup [.agg (nodeRowD (atI f p) .nocap), bav true]) [⟨44, 16, rowsD f p .nocap⟩, ⟨55, 1, []⟩] := by
  have hl := hf.len
  have hR := qa7 f p .nocap
  have hsc : (rowsD f p .nocap).all (fun r => r.all (AV.sc1 2)) = true := qab f _ _ 2 rfl
  have hat : atI (rowsD f p .nocap) (p + 1 - 1) = nodeRowD (atI f p) .nocap := by
    rw [show p + 1 - 1 = p by omega, qch f _ _ (by omega) (by omega) _ (by omega) (by omega), if_pos rfl]
  have gat := qav (by omega) (by omega) hat
  refine yaj tabs Tryz.func145 22 [.cell 4 44, .tmp 5] rfl rfl rfl rfl rfl ?_; intro w0 X γ κ
  (repeat' (first | ((with_reducible show AL _ _ _ _ _); first | (refine AL.step tabs rfl ?_; try dsimp only [len, List.nil_append, List.cons_append]) | refine yad rfl (yau (b := ⟨44, 16, rowsD f p .nocap⟩) tabs rfl rfl rfl rfl rfl rfl hR.symm) rfl ?_ | (refine AL.op rfl (yi rfl rfl rfl rfl rfl (by omega) (by omega)) ?_) | refine yad rfl (yan (b := ⟨44, 16, rowsD f p .nocap⟩) tabs rfl rfl rfl rfl rfl rfl rfl rfl hR.symm rfl (by omega) (by omega)) rfl ?_ | refine yad rfl (ya2 (i := ti44) (r := nodeRowD (atI f p) .nocap) (b := ⟨44, 16, rowsD f p .nocap⟩) (row := (p + 1 - 1).toNat) tabs rfl rfl rfl rfl rfl hR.symm gat rfl) rfl ?_ | refine ym ?_ | (refine yj rfl rfl rfl (fun hc => ?_) (fun hc => ?_) <;> (fail_if_success (exact absurd hc (by decide))) <;> (try simp only [hsx] at hc) <;> (try first | omega | contradiction | (simp [qa] at hc; done))) | (refine AL.op rfl (yi rfl rfl rfl rfl rfl (by omega) (by omega)) ?_) | (refine AL.op rfl (ye tabs rfl rfl rfl rfl rfl rfl rfl (fun _ => rfl) (by decide) (by omega) (by omega)) ?_)) | refine yn ?_ | refine yc ?_ | refine ya ?_ | refine yf ?_ | refine yh rfl ?_ | refine yg rfl ?_ | (refine yk rfl (fun hc => ?_) (fun hc => ?_) <;> (try simp only [hsx] at hc) <;> (try first | omega | contradiction | (simp [qa] at hc; done))) | refine yo ?_ | refine yd ?_))
  all_goals first
    | (exfalso; omega)
    | (refine yam 2 rfl rfl rfl rfl ?_ (by simp [cxG])
       simp only [qax]
       exact hsc)
theorem qls (f : List Node) (c : Change) (all : List Int) (m : Nat) (hf : Fit f) (h1 : 1 ≤ c.node) (h2 : c.node ≤ f.length) (hd : (traitsOf (atI f (c.node - 1)).kind).data = true)
    (ho0 : 0 ≤ c.offset) (hc0 : 0 ≤ c.count) (hoc : c.offset + c.count ≤ (atI f (c.node - 1)).data.length) (hde : (atI f (c.node - 1)).data = [])
    (hrep : GenC Tryz.prog 155 [⟨55, 1, []⟩] [.nocap, iav c.offset, iav (c.offset + c.count), .imm (.sl (c.data.map u16))] (.sub 0 all.length 0 m) [⟨55, 1, all.map cU⟩]) :
    GenC Tryz.prog 120 [⟨24, 1, [[.os 1 f.length]]⟩, ⟨44, 16, rowsD f (c.node - 1) .nocap⟩, ⟨55, 1, []⟩] [.ptr 0 1 0 0, c.av] (bav true)
      [⟨24, 1, [[.os 1 f.length]]⟩, ⟨44, 16, rowsD f (c.node - 1) (.sub 2 all.length 0 m)⟩, ⟨55, 1, all.map cU⟩] := by
  have hl := hf.len
  obtain ⟨nd, hnd⟩ : ∃ nd, nd = atI f (c.node - 1) := ⟨_, rfl⟩
  have hfn : nd.data.length ≤ 1000000000 := by rw [hnd]; exact (hf.atI (c.node - 1) (by omega) (by omega)).data
  have hR := qa7 f (c.node - 1) .nocap
  have hat := at_n f (c.node - 1) hf (by omega) (by omega)
  rw [show c.node - 1 + 1 = c.node by omega, ← hnd] at hat
  have hpar : atI (rowsD f (c.node - 1) .nocap) (c.node - 1) = nodeRowD nd .nocap := by
    rw [qch f _ _ (by omega) (by omega) _ (by omega) (by omega), if_pos rfl, hnd]
  have gpar := qav (by omega) (by omega) hpar
  rw [hde] at hoc
  have hoc0 : c.offset + c.count ≤ 0 := hoc
  have hoff : c.offset = 0 := by omega
  have hcnt : c.count = 0 := by omega
  rw [← hnd] at hd
  have hset : (rowsD f (c.node - 1) .nocap).set (c.node - 1).toNat (nodeRowD nd (.sub 2 all.length 0 m)) = rowsD f (c.node - 1) (.sub 2 all.length 0 m) := by
    unfold rowsD
    rw [List.set_set, hnd]
  have hsc : ∀ k, 3 ≤ k → (rowsD f (c.node - 1) .nocap).all (fun r => r.all (AV.sc1 k)) = true := fun k hk => qab f _ _ k rfl
  refine yaj tabs Tryz.func120 75 [.tmp 4] rfl rfl rfl rfl rfl ?_; intro w0 X γ κ
  refine AW.reserve 44 16 rfl ?_
  (repeat' (first | ((with_reducible show AL _ _ _ _ _); first | (refine AL.step tabs rfl ?_; try dsimp only [len, List.nil_append, List.cons_append]) | refine AL.op rfl (yb rfl rfl rfl rfl (qdi nd.kind) rfl) ?_ | refine yad rfl (yba tabs rfl rfl rfl rfl rfl) rfl ?_ | refine ym ?_ | (refine yj rfl rfl rfl (fun hc => ?_) (fun hc => ?_) <;> (fail_if_success (exact absurd hc (by decide))) <;> (try simp only [hsx] at hc) <;> (try first | omega | contradiction | (simp [qa] at hc; done))) | (refine AL.op rfl (yi rfl rfl rfl rfl rfl (by omega) (by omega)) ?_) | (refine AL.op rfl (ye tabs rfl rfl rfl rfl rfl rfl rfl (fun _ => rfl) (by decide) (by omega) (by omega)) ?_)) | ((with_reducible show DQ _ _ _ _ _ _); first | refine DQ.stepc (LS.alloc 3 tabs rfl rfl rfl rfl rfl rfl) rfl rfl rfl rfl rfl ?_ | refine DQ.stepc (LS.store (i := ti44) (v := .agg (nodeRowD nd .nocap)) (ty := 44) (sz := 16) (rows := [ti44.zero]) (r := ti44.zero) tabs rfl rfl rfl rfl rfl rfl rfl rfl rfl rfl (Nat.le_of_ble_eq_true rfl) rfl) rfl rfl rfl rfl rfl ?_ | refine DQ.stepc (yaq (b := ⟨44, 16, rowsD f (c.node - 1) .nocap⟩) tabs rfl rfl rfl rfl rfl rfl rfl rfl rfl hR.symm rfl (by omega) (by omega)) rfl rfl rfl rfl rfl ?_ | refine DQ.stepc (yaw (b := ⟨44, 16, rowsD f (c.node - 1) .nocap⟩) tabs rfl rfl rfl rfl rfl rfl rfl rfl rfl hR.symm) rfl rfl rfl rfl rfl ?_ | refine DQ.stepc (LS.store (i := ti36) (v := .sub 2 all.length 0 m) (ty := 44) (sz := 16) (rows := rowsD f (c.node - 1) .nocap) (r := nodeRowD nd .nocap) tabs rfl rfl rfl rfl rfl rfl rfl hR.symm rfl rfl (by decide) gpar) rfl rfl rfl rfl rfl ?_ | refine DQ.stepc (LS.val tabs rfl rfl rfl) rfl rfl rfl rfl rfl ?_ | refine DQ.stepc (yab rfl rfl) rfl rfl rfl rfl rfl ?_ | refine DQ.nilM (by kernel_rfl) ?_ | refine DQ.stepc (yaf rfl rfl rfl rfl rfl rfl (by omega) (by omega)) rfl rfl rfl rfl rfl ?_ | refine DQ.stepc (yaa tabs rfl rfl rfl rfl rfl rfl rfl rfl (fun _ => rfl) (by decide) (by omega) (by omega)) rfl rfl rfl rfl rfl ?_ | (refine DQ.gsplitE rfl rfl rfl (fun hc => ?_) (fun hc => ?_) <;> (fail_if_success (exact absurd hc (by decide))) <;> (try simp only [hsx] at hc) <;> (try first | omega | contradiction | (simp [qa] at hc; done)))) | ((with_reducible show M2.DQ _ _ _ _ _ _); first | refine M2.DQ.step2 (M2.LS.callG [1, 2] (caps := []) rfl rfl rfl rfl rfl hat (fun _ => rfl) (bs := [⟨44, 16, rowsD f (c.node - 1) .nocap⟩, ⟨55, 1, []⟩]) rfl (fun n => by simp only [List.map_cons, List.map_nil, qar]; rfl) rfl rfl (by simp only [qax]; exact qab _ _ _ _ rfl) rfl (by simp only [qax]; exact qab _ _ _ _ rfl) rfl (hpA := [⟨44, 16, rowsD f (c.node - 1) .nocap⟩, ⟨55, 1, []⟩]) (fun n => by simp only [List.map_cons, List.map_nil, qar]; rfl) (r' := .tup [.agg (nodeRowD nd .nocap), bav true]) (fun _ => rfl)) rfl rfl rfl rfl rfl ?_ | refine M2.DQ.step2 (M2.LS.callG [2] (caps := []) rfl rfl rfl rfl rfl hrep (fun _ => rfl) (bs := [⟨55, 1, []⟩]) rfl (fun n => rfl) rfl rfl rfl rfl (by simp only [List.all_cons, List.all_nil, List.all_map, Function.comp_def, cI, cB, cU, iav, bav, AV.sc1, AV.sc0, Bool.and_true, Bool.and_self, qf]; try rfl) rfl (hpA := [⟨55, 1, all.map cU⟩]) (fun n => by simp only [List.map_cons, List.map_nil, qbp]) (r' := .sub 2 all.length 0 m) (fun _ => rfl)) rfl rfl rfl rfl rfl ?_ | refine M2.DQ.stepc (LS.alloc 3 tabs rfl rfl rfl rfl rfl rfl) rfl rfl rfl rfl rfl ?_ | refine M2.DQ.stepc (LS.store (i := ti44) (v := .agg (nodeRowD nd .nocap)) (ty := 44) (sz := 16) (rows := [ti44.zero]) (r := ti44.zero) tabs rfl rfl rfl rfl rfl rfl rfl rfl rfl rfl (Nat.le_of_ble_eq_true rfl) rfl) rfl rfl rfl rfl rfl ?_ | refine M2.DQ.stepc (yaq (b := ⟨44, 16, rowsD f (c.node - 1) .nocap⟩) tabs rfl rfl rfl rfl rfl rfl rfl rfl rfl hR.symm rfl (by omega) (by omega)) rfl rfl rfl rfl rfl ?_ | refine M2.DQ.stepc (yaw (b := ⟨44, 16, rowsD f (c.node - 1) .nocap⟩) tabs rfl rfl rfl rfl rfl rfl rfl rfl rfl hR.symm) rfl rfl rfl rfl rfl ?_ | refine M2.DQ.stepc (LS.store (i := ti36) (v := .sub 2 all.length 0 m) (ty := 44) (sz := 16) (rows := rowsD f (c.node - 1) .nocap) (r := nodeRowD nd .nocap) tabs rfl rfl rfl rfl rfl rfl rfl hR.symm rfl rfl (by decide) gpar) rfl rfl rfl rfl rfl ?_ | refine M2.DQ.stepc (LS.val tabs rfl rfl rfl) rfl rfl rfl rfl rfl ?_ | refine M2.DQ.stepc (yab rfl rfl) rfl rfl rfl rfl rfl ?_ | refine M2.DQ.nilM (by kernel_rfl) ?_ | refine M2.DQ.stepc (yaf rfl rfl rfl rfl rfl rfl (by omega) (by omega)) rfl rfl rfl rfl rfl ?_ | refine M2.DQ.stepc (yaa tabs rfl rfl rfl rfl rfl rfl rfl rfl (fun _ => rfl) (by decide) (by omega) (by omega)) rfl rfl rfl rfl rfl ?_ | (refine M2.DQ.gsplitE rfl rfl rfl (fun hc => ?_) (fun hc => ?_) <;> (fail_if_success (exact absurd hc (by decide))) <;> (try simp only [hsx] at hc) <;> (try first | omega | contradiction | (simp [qa] at hc; done)))) | (exfalso; omega) | refine M2.drawW (id := 1) mixed (by kernel_rfl) ?_ | refine M2.drawW (id := 4) mixed (by kernel_rfl) ?_ | refine yn ?_ | refine yc ?_ | refine ya ?_ | refine yf ?_ | refine yh rfl ?_ | refine yg rfl ?_ | (refine yk rfl (fun hc => ?_) (fun hc => ?_) <;> (try simp only [hsx] at hc) <;> (try first | omega | contradiction | (simp [qa] at hc; done))) | refine yo ?_ | refine yd ?_ | refine yx mixed (by kernel_rfl) ?_))
  all_goals first
    | (exfalso; omega)
    | (refine yam 3 rfl rfl (by rw [← hset]; rfl) rfl ?_ (by simp [cxG])
       simp only [qax]
       exact ⟨rfl, qab _ _ _ _ rfl, (by simp only [List.all_cons, List.all_nil, List.all_map, Function.comp_def, cI, cB, cU, iav, bav, AV.sc1, AV.sc0, Bool.and_true, Bool.and_self, qf]; try rfl)⟩)
    | (exfalso; rw [hd] at hc; cases hc)
theorem qnw (f : List Node) (c : Change) (all : List Int) (m : Nat) (hf : Fit f) (hck : c.kind = 5) (hcp : plainDa c = c) (hdl : c.data.length ≤ 1000000000) (h1 : 1 ≤ c.node) (h2 : c.node ≤ f.length) (hd : (traitsOf (atI f (c.node - 1)).kind).data = true)
    (ho0 : 0 ≤ c.offset) (hc0 : 0 ≤ c.count) (hoc : c.offset + c.count ≤ (atI f (c.node - 1)).data.length) (hne : (atI f (c.node - 1)).data = []) (hnl : (all.take m).length ≤ 1000000000)
    (hrep : GenC Tryz.prog 155 [⟨55, 1, []⟩] [.nocap, iav c.offset, iav (c.offset + c.count), .imm (.sl (c.data.map u16))] (.sub 0 all.length 0 m) [⟨55, 1, all.map cU⟩]) :
    PureC Tryz.prog 71 [fav f, c.av] (.tup [fav (doneW f c.node (all.take m)).1, iav (doneW f c.node (all.take m)).2]) := by
  have hsame : PureC Tryz.prog 96 [c.av, (plainDa c).av] (bav true) := by
    rw [hcp]
    exact qan c hdl (by rw [← hcp]; exact fit0) (by rw [← hcp]; simp [plainDa, c0]) (by rw [← hcp]; simp [plainDa, c0]) (by omega) (by omega)
  have hins := qls f c all m hf h1 h2 hd ho0 hc0 hoc hne hrep
  have hfst : ∀ j : Nat, j < 4 → stepKeys[j]? ≠ some c.kind := by
    intro j hj
    rw [hck]
    match j, hj with
    | 0, _ => decide
    | 1, _ => decide
    | 2, _ => decide
    | 3, _ => decide
  have hfi : Fit (datF f c.node (all.take m)) := by
    have := hf.atI (c.node - 1) (by omega) (by omega)
    exact qct hf ⟨hnl, this.attrs, this.kids⟩
  have fzW : ∀ {C : Cx} {s : St}, nth s.hp 0 = some ⟨44, 16, rowsD f (c.node - 1) (.sub 1 all.length 0 m)⟩ → nth s.hp 1 = some ⟨55, 1, all.map cU⟩ → Fz C s (.agg [.os 0 f.length]) (fav (datF f c.node (all.take m))) := by
    intro C s g1 g2
    exact fzD (by omega) (by omega) g1 g2
  refine yq tabs Tryz.func71 51 [.cell 4 24, .tmp 5] rfl rfl rfl rfl rfl ?_; intro w0 X
  refine AW.reserve 44 16 rfl ?_
  refine AW.reserve 55 1 rfl ?_
  refine AW.reserve 126 4 rfl ?_
  (repeat' (first | ((with_reducible show AL _ _ _ _ _); first | (refine AL.step tabs rfl ?_; try dsimp only [len, List.nil_append, List.cons_append]) | refine yac [0] 6 rfl rfl rfl rfl rfl (caps := []) rfl (qib f (c.node - 1) hf (by omega) (by omega) hne) rfl rfl rfl rfl rfl rfl (by simp only [List.all_cons, List.all_nil, Bool.and_true]; exact qab _ _ _ _ rfl) rfl (hpA := [⟨44, 16, rowsD f (c.node - 1) .nocap⟩]) (by simp only [List.map_cons, List.map_nil, qar]; rfl) (r' := .agg [.os 0 f.length]) rfl rfl ?_ | refine yac [6, 0, 1] 7 rfl rfl rfl rfl rfl (caps := []) rfl hins rfl (by simp only [List.map_cons, List.map_nil, qar]; rfl) rfl rfl (by simp only [qax]; exact ⟨rfl, qab _ _ _ _ rfl⟩) rfl (by simp only [qax]; exact ⟨rfl, qab _ _ _ _ rfl, (by simp only [List.all_cons, List.all_nil, List.all_map, Function.comp_def, cI, cB, cU, iav, bav, AV.sc1, AV.sc0, Bool.and_true, Bool.and_self, qf]; try rfl)⟩) rfl (hpA := [⟨24, 1, [[.os 0 f.length]]⟩, ⟨44, 16, rowsD f (c.node - 1) (.sub 1 all.length 0 m)⟩, ⟨55, 1, all.map cU⟩]) (by simp only [List.map_cons, List.map_nil, qar, qbp]; rfl) (r' := bav true) rfl rfl ?_ | refine AL.op rfl (yat rfl rfl rfl rfl (.cons (fzW rfl rfl) .nil) (qbn (datF f c.node (all.take m)) hfi) rfl) ?_ | refine ym ?_ | (refine yj rfl rfl rfl (fun hc => ?_) (fun hc => ?_) <;> (fail_if_success (exact absurd hc (by decide))) <;> (try simp only [hsx] at hc) <;> (try first | omega | contradiction | (simp [qa] at hc; done)))) | ((with_reducible show DQ _ _ _ _ _ _); first | refine DQ.stepc (yai rfl rfl rfl rfl rfl qb3 rfl) rfl rfl rfl rfl rfl ?_ | refine DQ.stepc (ya4 (kf := k8) (q := c.kind) (xs := stepKeys) (i := 4) (v := [.fn 119, .fn 120, .bool false, .fn 121]) key56 Tryz.underlying128 zero126 rfl rfl rfl rfl rfl rfl (by rw [hck]; rfl) hfst rfl) rfl rfl rfl rfl rfl ?_ | refine DQ.stepc (LS.alloc 2 tabs rfl rfl rfl rfl rfl rfl) rfl rfl rfl rfl rfl ?_ | refine DQ.stepc (LS.store (i := ti126) (v := .agg [.imm (.fn 119), .imm (.fn 120), .imm (.bool false), .imm (.fn 121)]) (ty := 126) (sz := 4) (rows := [ti126.zero]) (r := ti126.zero) tabs rfl rfl rfl rfl rfl rfl rfl rfl rfl rfl (Nat.le_of_ble_eq_true rfl) rfl) rfl rfl rfl rfl rfl ?_ | refine DQ.stepc (yai rfl rfl rfl rfl rfl (qcu c) rfl) rfl rfl rfl rfl rfl ?_ | refine DQ.stepc (yai rfl rfl rfl rfl rfl hsame rfl) rfl rfl rfl rfl rfl ?_ | refine DQ.stepc (LS.val tabs rfl rfl rfl) rfl rfl rfl rfl rfl ?_ | refine DQ.stepc (yab rfl rfl) rfl rfl rfl rfl rfl ?_ | refine DQ.nilM (by kernel_rfl) ?_ | (refine DQ.gsplitE rfl rfl rfl (fun hc => ?_) (fun hc => ?_) <;> (fail_if_success (exact absurd hc (by decide))) <;> (try simp only [hsx] at hc) <;> (try first | omega | contradiction | (simp [qa] at hc; done)))) | refine yn ?_ | refine yc ?_ | refine ya ?_ | refine yf ?_ | refine yh rfl ?_ | refine yg rfl ?_ | (refine yk rfl (fun hc => ?_) (fun hc => ?_) <;> (try simp only [hsx] at hc) <;> (try first | omega | contradiction | (simp [qa] at hc; done))) | refine yo ?_ | refine yd ?_ | refine yx mixed (by kernel_rfl) ?_))
  all_goals first
    | (rw [show doneW f c.node (all.take m) = ([], 2) by unfold doneW; rw [if_neg (by rw [qb]; exact hc)]]; exact RQ.fin rfl rfl rfl)
    | (rw [show doneW f c.node (all.take m) = (datF f c.node (all.take m), 0) by unfold doneW; rw [if_pos (by rw [qb]; exact hc)]]; exact yao rfl (ya0 (.cons (fzW rfl rfl) (.cons (Fz.im rfl) .nil))))
def repD (l : List Int) (off cnt : Int) (v : List Int) : List Int := l.take off.toNat ++ v ++ l.drop (off + cnt).toNat
noncomputable def doneG (f : List Node) (c : Change) : List Node × Int :=
  if c.kind = 1 then doneM f c.made
  else if c.kind = 2 then doneA f c
  else if c.kind = 5 then doneW f c.node (repD (atI f (c.node - 1)).data c.offset c.count c.data)
  else if c.kind = 8 then (if ([c.node, c.other].all fun h => inB f h) = true then (f, 0) else ([], 2))
  else (if dec (treeP f c) = true then (f, 0) else ([], 2))
def daCh (node off cnt : Int) (v : List Int) : Change := { c0 with kind := 5, node := node, offset := off, count := cnt, data := v }
inductive CanCh (f : List Node) : Change → Prop
  | mk (n : Node) (hn : FitN n) (h12 : n.kind ≠ 12) : CanCh f (mkCh (f.length + 1) n)
  | ins (x p i : Int) (hx : inR f x) (hp : inR f p) (h0 : 0 ≤ i) (h1 : i ≤ (nodeAt f p).kids.length) (hp0 : (nodeAt f x).parent = 0) : CanCh f (inCh x p i)
  | dat (h off cnt : Int) (v : List Int) (hh : inR f h) (hd : (traitsOf (nodeAt f h).kind).data = true) (h0 : 0 ≤ off) (h1 : 0 ≤ cnt) (h2 : off + cnt ≤ (nodeAt f h).data.length) (hv : v.length ≤ 1000000) (ho : ((nodeAt f h).data.length : Int) - cnt + v.length ≤ 1000000) : CanCh f (daCh h off cnt v)
  | spl (a b c : Int) : CanCh f (splitCh a b c)
  | tree (a b c d : Int) : CanCh f (treeCh a b c d)
theorem qlt (l : List Int) (off cnt : Int) (v : List Int) (h0 : 0 ≤ off) (h2 : off + cnt = l.length) (h1 : 0 ≤ cnt) : repD l off cnt v = l.take off.toNat ++ v := by
  unfold repD
  rw [List.drop_eq_nil_of_le (by omega), List.append_nil]
theorem qjz {f : List Node} {h : Int} (hh : inR f h) : datF f h (atI f (h - 1)).data = f := by
  unfold datF updAt
  have h1 := hh.1
  have h2 := hh.2
  have := qe9 f (h - 1) (by omega) (by omega)
  exact this
theorem qnx (f : List Node) (c : Change) (hf : Fit f) (hr : rightP f) (h0 : 0 < f.length) (hc : CanCh f c) : PureC Tryz.prog 71 [fav f, c.av] (.tup [fav (doneG f c).1, iav (doneG f c).2]) := by
  cases hc with
  | mk n hn h12 =>
    rw [show doneG f (mkCh (f.length + 1) n) = doneM f n from rfl]
    exact qnk f n hf hn h0 h12
  | ins x p i hx hp i0 i1 hp0 =>
    rw [show doneG f (inCh x p i) = doneA f (inCh x p i) from rfl]
    have h1 := hx.1
    have h2 := hx.2
    have h3 := hp.1
    have h4 := hp.2
    rw [qaf hp] at i1
    rw [qaf hx] at hp0
    have hkl := (hf.atI (p - 1) (by omega) (by omega)).kids
    have hfew := qcd hr p
    rw [qaf hp] at hfew
    by_cases hi : i < (atI f (p - 1)).kids.length
    · exact qlg f (inCh x p i) hf h0 rfl rfl (by show (atI f (p - 1)).kids.length < _; omega) h1 h2 h3 h4 i0 hi hp0
    · have hi' : i = (atI f (p - 1)).kids.length := by omega
      have e : doneA f (inCh x p i) = doneI f (inCh x p i) := by
        unfold doneA doneI
        rw [show insFM f (inCh x p i).node (inCh x p i).parent (inCh x p i).index = insF f (inCh x p i).node (inCh x p i).parent by rw [show (inCh x p i).index = (atI f ((inCh x p i).parent - 1)).kids.length from hi']; exact qji _ _ _]
      rw [e]
      by_cases hk : (atI f (p - 1)).kids = []
      · exact qlf f (inCh x p i) hf h0 rfl rfl (by show (atI f (p - 1)).kids.length < _; omega) h1 h2 h3 h4 hi' hk hp0
      · exact qle f (inCh x p i) hf h0 rfl rfl (by show (atI f (p - 1)).kids.length < _; omega) h1 h2 h3 h4 hi' hk hp0
  | dat h off cnt v hh hd o0 c0' oc hv ho =>
    rw [show doneG f (daCh h off cnt v) = doneW f h (repD (atI f (h - 1)).data off cnt v) from rfl]
    rw [qaf hh] at hd oc ho
    have h1 := hh.1
    have h2 := hh.2
    have hdl := (hf.atI (h - 1) (by omega) (by omega)).data
    by_cases hc0 : 0 < cnt ∨ v ≠ []
    · by_cases hne : (atI f (h - 1)).data = []
      · rw [hne] at oc ho
        have hoff : off = 0 := by simp at oc; omega
        have hcnt : cnt = 0 := by simp at oc; omega
        subst hoff hcnt
        have hv0 : v ≠ [] := by
          rcases hc0 with h' | h'
          · omega
          · exact h'
        have hvp : 0 < v.length := List.length_pos_iff.2 hv0
        have hrep := (qox v hv0 (by omega)).sub (by simp) hvp
        have := qnw f (daCh h 0 0 v) v v.length hf rfl rfl (by show v.length ≤ _; omega) h1 h2 hd o0 c0' (by show (0 : Int) + 0 ≤ _; omega) hne (by rw [List.take_of_length_le (Nat.le_refl _)]; omega) hrep
        rw [List.take_of_length_le (Nat.le_refl _), show (daCh h 0 0 v).node = h from rfl] at this
        rw [hne, show repD [] 0 0 v = v by simp [repD]]
        exact this
      · obtain ⟨all, m, ht, hrep⟩ := qnv (atI f (h - 1)).data v off (off + cnt) o0 (by omega) oc hne (by
          rcases hc0 with h' | h'
          · exact .inl (by omega)
          · exact .inr h') hdl (by omega)
        have hlen : (all.take m).length ≤ 1000000000 := by
          rw [ht]
          simp only [List.length_append, List.length_take, List.length_drop]
          omega
        have := qnm f (daCh h off cnt v) all m hf rfl rfl (by show v.length ≤ _; omega) h1 h2 hd o0 c0' oc hne hlen hrep
        rw [ht, show (daCh h off cnt v).node = h from rfl] at this
        exact this
    · have hc00 : cnt = 0 := by
        have : ¬ 0 < cnt := fun h => hc0 (.inl h)
        omega
      have hv0 : v = [] := Classical.byContradiction fun h => hc0 (.inr h)
      subst hc00 hv0
      have e : repD (atI f (h - 1)).data off 0 [] = (atI f (h - 1)).data := by
        unfold repD
        simp
      rw [e]
      have e2 : doneW f h (atI f (h - 1)).data = (f, 0) := by
        unfold doneW
        rw [qjz hh, if_pos (by rw [qb]; exact hr)]
      rw [e2]
      exact doneSame f (daCh h off 0 []) hf h0 hr rfl rfl h1 h2 hd o0 rfl (by show off ≤ (atI f (h - 1)).data.length; omega) rfl
  | spl a b c =>
    have := qno f (splitCh a b c) _ hf h0 hr rfl rfl (qon f (splitCh a b c) hf.len)
    rw [show doneG f (splitCh a b c) = (if ([a, b].all fun h => inB f h) = true then (f, 0) else ([], 2)) from rfl]
    cases e : [a, b].all fun h => inB f h with
    | true => rw [show ([(splitCh a b c).node, (splitCh a b c).other].all fun h => inB f h) = true from e] at this; exact this
    | false => rw [show ([(splitCh a b c).node, (splitCh a b c).other].all fun h => inB f h) = false from e] at this; exact this
  | tree a b c d =>
    have := qnp f (treeCh a b c d) _ hf h0 hr rfl rfl (by simp [treeCh]) (by simp [treeCh, c0]) (qop f (treeCh a b c d) hf.len (by simp [treeCh]) (by simp [treeCh, c0]))
    rw [show doneG f (treeCh a b c d) = (if dec (treeP f (treeCh a b c d)) = true then (f, 0) else ([], 2)) from rfl]
    cases e : dec (treeP f (treeCh a b c d)) with
    | true => rw [e] at this; exact this
    | false => rw [e] at this; exact this
end Go.Proofs.YtmhejcnaanocpaaGreat.A
