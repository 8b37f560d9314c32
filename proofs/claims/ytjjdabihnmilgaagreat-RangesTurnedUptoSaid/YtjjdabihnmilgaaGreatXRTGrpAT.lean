/- Contracts on the machine itself: slices.Delete of numbers; lifted. -/
import Derived.Test.YtjjdabihnmilgaaGreatXRTGrpAK
import Derived.Test.YtjjdabihnmilgaaGreatProg
import Derived.Deep.RegionLaw
import Derived.Test.YtjjdabihnmilgaaGreatXRTGrpAO
import Derived.Test.YtjjdabihnmilgaaGreatXRTGrpAJ
import Derived.Test.YtjjdabihnmilgaaGreatXRTGrpAP
import Derived.Test.YtjjdabihnmilgaaGreatXRTGrpAS
namespace Go.Proofs.YtjjdabihnmilgaaGreat.A
open Go.Shelf Go.RowKit Go.Lib
set_option linter.unusedVariables false
set_option linter.unusedSimpArgs false
set_option maxHeartbeats 4000000 in
set_option maxRecDepth 1000000 in
theorem nDelI (b n c i j : Nat) (cs : List Value) (w : World) (hij : i < j) (hj : j ≤ n) (hnc : n ≤ c) (hc63 : c ≤ 9223372036854775807)
    (hcl : cs.length = n) (hcs : ∀ j v, cs[j]? = some v → w.cell? ⟨b, j, none⟩ = some v) (hsp : ∀ k, k < c → (w.cell? ⟨b, k, none⟩).isSome = true) (hfz : ∀ k, w.frozen? ⟨b, k, none⟩ = false) (h1c : ∀ v ∈ cs, v.oneCell' = true) :
    Calls Tryz.prog 201 #[.slice (some ⟨b, 0, none⟩) n c, .int .i64 i, .int .i64 j] w fun e w' => e = .returned (.slice (some ⟨b, 0, none⟩) (i + (n - j)) c) ∧ w' = (w.drew.setCells b i (cs.drop j)).setCells b (i + (n - j)) (List.replicate (n - (i + (n - j))) (Value.int .i64 0)) := by
  have mixed : Tryz.prog.follows .mixedOrders = true := by kernel_rfl
  have tS : Tryz.prog.underlying 78 = some (.slice 3) := Tryz.underlying78
  have tI : Tryz.prog.underlying 3 = some (.int .i64) := Tryz.underlying3
  have iE : (Tryz.prog.info? 3).map (fun i => (i.zero, i.size, i.bytes)) = some (some (Value.int .i64 0), 1, 8) := by kernel_rfl
  obtain ⟨i0, hi0, hz0, hzs, hzb⟩ := info_parts iE
  obtain ⟨news, hnews⟩ : ∃ news, news = cs.drop j := ⟨_, rfl⟩
  have hlen : news.length = n - j := by rw [hnews, List.length_drop, hcl]
  obtain ⟨A, hA, hsrc⟩ : ∃ A : Addr, (if c = j then some (⟨b, 0, none⟩ : Addr) else some ⟨b, j, none⟩) = some A ∧ Hid (∀ t u, news[t]? = some u → w.drew.cell? (A.add t) = some u) := by
    by_cases h : c = j
    · refine ⟨⟨b, 0, none⟩, by simp [h], fun t u hu => ?_⟩
      have h0 : news.length = 0 := by rw [hlen]; omega
      rw [List.length_eq_zero_iff.1 h0] at hu
      simp at hu
    · refine ⟨⟨b, j, none⟩, by simp [h], fun t u hu => ?_⟩
      rw [Addr.add_lit]
      exact hcs _ u (by rwa [hnews, List.getElem?_drop] at hu)
  have s1 : Hid (news.length = (n - j) * 1) := by rw [Nat.mul_one]; exact hlen
  have s2 : Hid (∀ u ∈ news, u.oneCell' = true) := fun u hu => h1c u (by rw [hnews] at hu; exact List.mem_of_mem_drop hu)
  have s3 : Hid (∀ t, t < news.length → (w.drew.cell? ⟨b, 0 + i * 1 + t, none⟩).isSome = true ∧ w.drew.frozen? ⟨b, 0 + i * 1 + t, none⟩ = false) := by
    intro t ht
    rw [hlen] at ht
    rw [Nat.mul_one, Nat.zero_add]
    exact ⟨hsp _ (by omega), hfz _⟩
  obtain ⟨W1, hW1⟩ : ∃ W1, W1 = w.drew.setCells b (0 + i * 1) news := ⟨_, rfl⟩
  have hc1 : ∀ k, k < c → (W1.cell? ⟨b, k, none⟩).isSome = true := fun k hk => by
    rw [hW1, Nat.mul_one, Nat.zero_add]
    exact isSome_setCells b news i w.drew (fun z hz => hsp _ (by omega)) _ (hsp k hk)
  have hf1 : ∀ k, W1.frozen? ⟨b, k, none⟩ = false := fun k => by rw [hW1, World.frozen?_setCells]; exact hfz k
  have hcl : ∀ ty, (Builtin.clear_ #[78] ty #[.slice (some ⟨b, i + (n - j), none⟩) (n - (i + (n - j))) (c - (i + (n - j)))]).run Tryz.prog W1 = .ok (.tuple #[]) (W1.setCells b (i + (n - j)) (List.replicate (n - (i + (n - j))) (Value.int .i64 0))) :=
    fun ty => Lib.run_clear_slice W1 _ _ ty _ tS Tryz.zeroValue3 rfl rfl b (i + (n - j)) _ _ (by omega) (fun t ht => hc1 _ (by omega)) (fun t ht => hf1 _)
  have X : Aside (W1 = w.drew.setCells b i (cs.drop j)) := by show _ = _; rw [hW1, hnews, Nat.mul_one, Nat.zero_add]
  have hW : Hid (W1 = w.drew.setCells b (0 + i * 1) news) := hW1
  have hic : i ≤ c := by omega
  have hjc : j ≤ c := by omega
  have hin : i ≤ n := by omega
  have hne : ¬ ((i : Int) = (j : Int)) := by omega
  have hle : (i : Int) ≤ (j : Int) := by omega
  have hnt : ¬ (c = i + (n - j)) := by omega
  clear hW1 hc1 hf1 hnews hlen hcs hsp hfz h1c
  go_enter Tryz.func201, Tryz.ntmps201
  go_wp2_with fail
  go_region_law_o (refine step_append_room rfl (.tmp 22) (.tmp 25) 78 rfl 3 i0 1 tS hi0 hzs b 0 i c (by simp [Act.eval, Act.put]) A (n - j) (c - j) news (by simp [Act.eval, Act.put]) s1.out hsrc.out s2.out (by omega) s3.out ?_; rw [← hW.out])
  go_wp2
  go_ret
  exact ⟨rfl, by rw [X.out]⟩
theorem ownI {C : Cx} {s : St} {γ : Nat → Option Nat} {κ : Nat → Nat} {a : Act} {W : World} (hC : Conc C s γ κ a W) {id : Nat} {l : List Int} (hb : s.hp[id]? = some ⟨3, 1, l.map (cK .i64)⟩) (h0 : l ≠ []) :
    ∃ g sp, γ id = some g ∧ W.heap[g]? = some (.cells (l.map (Value.int .i64) ++ sp).toArray 3 (0, 0)) ∧ l.length + sp.length = κ id := by
  have hB := hC.blk id _ hb
  rcases hB.mem with ⟨h1, h2, h3⟩ | ⟨g, ys, sp, h1, h2, h3, h4⟩
  · exact absurd (List.map_eq_nil_iff.1 h2) h0
  · have e := cK_vals h4
    subst e
    exact ⟨g, sp, h1, h2, by have h3' : _ = κ id * 1 := h3; simpa using h3'⟩
/-- The list without the element at i, a nought behind. -/
def delL (l : List Int) (i : Nat) : List Int := l.take i ++ l.drop (i + 1) ++ [0]
theorem delL_len (l : List Int) (i : Nat) (hi : i < l.length) : (delL l i).length = l.length := by
  unfold delL
  simp only [List.length_append, List.length_take, List.length_drop, List.length_singleton]
  omega
theorem delL_take (l : List Int) (i : Nat) (hi : i < l.length) : (delL l i).take (l.length - 1) = l.take i ++ l.drop (i + 1) := by
  unfold delL
  exact List.take_left' (by simp only [List.length_append, List.length_take, List.length_drop]; omega)
theorem spliceD {α : Type} (ys sp D : List α) (z : α) (i : Nat) (hi : i < ys.length) (hD : D.length = ys.length - (i + 1)) :
    (((ys ++ sp).take i ++ D ++ (ys ++ sp).drop (i + D.length)).take (ys.length - 1) ++ [z] ++ ((ys ++ sp).take i ++ D ++ (ys ++ sp).drop (i + D.length)).drop (ys.length - 1 + [z].length)) = (ys.take i ++ D ++ [z]) ++ sp := by
  have h1 : (ys ++ sp).take i = ys.take i := List.take_append_of_le_length (by omega)
  have h2 : (ys.take i ++ D).length = ys.length - 1 := by simp; omega
  have h3 : (ys.take i ++ D).drop (ys.length - 1 + [z].length) = [] := List.drop_eq_nil_of_le (by rw [h2]; simp)
  rw [h1, List.take_left' h2, List.drop_append, h2, h3, List.nil_append, List.drop_drop]
  rw [show i + D.length + (ys.length - 1 + [z].length - (ys.length - 1)) = ys.length by simp; omega, List.drop_left' rfl]
set_option maxHeartbeats 4000000 in
set_option maxRecDepth 100000 in
theorem coreDelI {C : Cx} {s : St} {γ : Nat → Option Nat} {κ : Nat → Nat} {a : Act} {W : World} (hC : Conc C s γ κ a W) {id : Nat} {l : List Int} (hb : s.hp[id]? = some ⟨3, 1, l.map (cK .i64)⟩) {i : Nat} (hi : i < l.length) (hl : l.length ≤ 1000000000) :
    Calls Tryz.prog 201 #[.slice ((γ id).map fun g => ⟨g, 0, none⟩) l.length (κ id), .int .i64 i, .int .i64 ((i + 1 : Nat) : Int)] W fun e W' => ∃ x γ' κ', e = .returned x ∧
      Conc C ⟨s.env, s.hp.set id ⟨3, 1, (delL l i).map (cK .i64)⟩⟩ γ' κ' a W' ∧ RepA (St.mm ⟨s.env, s.hp.set id ⟨3, 1, (delL l i).map (cK .i64)⟩⟩ C γ' κ' W') (.sub id (delL l i).length 0 (l.length - 1)) x := by
  have hid : id < s.hp.length := (List.getElem?_eq_some_iff.1 hb).1
  obtain ⟨g, sp, hg, hmem, hcap⟩ := ownI hC hb (fun e => by rw [e] at hi; simp at hi)
  have hmax' : κ id ≤ maxLen := (hC.blk id _ hb).capm
  have hc63 : κ id ≤ 9223372036854775807 := by unfold maxLen at hmax'; omega
  rw [hg]
  have hcell : ∀ j, W.cell? ⟨g, j, none⟩ = (l.map (Value.int .i64) ++ sp)[j]? := fun j => by rw [blk_cell hmem]; simp
  have hcs : ∀ j y, (l.map (Value.int .i64))[j]? = some y → W.cell? ⟨g, j, none⟩ = some y := fun j y hy => by
    rw [hcell, List.getElem?_append_left (List.getElem?_eq_some_iff.1 hy).1]; exact hy
  have h1c : ∀ u : List Int, ∀ y ∈ u.map (Value.int .i64), y.oneCell' = true := by
    intro u y hy
    obtain ⟨z, _, rfl⟩ := List.mem_map.1 hy
    rfl
  have hml := delL_len l i hi
  have hnew : ((delL l i).map (cK .i64)).length = (delL l i).length := List.length_map _
  have hrep : All2 (RepA (s.mm C γ κ W)) ((delL l i).map (cK .i64)).flatten ((delL l i).map (Value.int .i64)) := cK_rep _ _
  have e2 : (l.map (Value.int .i64)).take i ++ (l.map (Value.int .i64)).drop (i + 1) ++ [Value.int .i64 0] = (delL l i).map (Value.int .i64) := by
    unfold delL; simp
  have hsub : ∀ {γ' : Nat → Option Nat} {κ' : Nat → Nat} {W' : World} {g' k' : Nat}, γ' id = some g' → l.length - 1 ≤ k' → RepA (St.mm ⟨s.env, s.hp.set id ⟨3, 1, (delL l i).map (cK .i64)⟩⟩ C γ' κ' W') (.sub id (delL l i).length 0 (l.length - 1)) (.slice (some ⟨g', 0, none⟩) (l.length - 1) k') := by
    intro γ' κ' W' g' k' h1 h2
    refine .sub id _ 0 _ ⟨3, 1, (delL l i).map (cK .i64)⟩ _ _ (List.getElem?_set_self hid) (Nat.le_of_eq hnew.symm) (fun _ => ⟨by omega, fun _ => ⟨g', h1, by simp⟩⟩) h2
  have hll : (l.map (Value.int .i64)).length = l.length := by simp
  have hspc : ∀ k, k < κ id → (W.cell? ⟨g, k, none⟩).isSome = true := fun k hk => by
    rw [hcell, List.getElem?_eq_getElem (by simp only [List.length_append, List.length_map]; omega)]; rfl
  refine (nDelI g l.length (κ id) i (i + 1) _ W (by omega) (by omega) (by omega) hc63 hll hcs hspc (fun k => blk_frozen hmem k) (h1c l)).mono ?_
  rintro e W' ⟨rfl, rfl⟩
  rw [show i + (l.length - (i + 1)) = l.length - 1 by omega, show l.length - (l.length - 1) = 1 by omega]
  have h1 := setCells_at ((l.map (Value.int .i64)).drop (i + 1)) i W.drew _ hmem (by simp only [List.length_append, List.length_map, List.length_drop]; omega)
  have h2 := setCells_at (List.replicate 1 (Value.int .i64 0)) (l.length - 1) _ _ h1 (by simp only [List.length_append, List.length_map, List.length_take, List.length_drop, List.length_replicate]; omega)
  have hsp2 := spliceD (l.map (Value.int .i64)) sp ((l.map (Value.int .i64)).drop (i + 1)) (Value.int .i64 0) i (by simpa using hi) (by simp)
  rw [hll] at hsp2
  rw [show List.replicate 1 (Value.int .i64 0) = [Value.int .i64 0] from rfl] at h2 ⊢
  rw [hsp2, e2] at h2
  have hs1 := setCells_same g ((l.map (Value.int .i64)).drop (i + 1)) i W.drew
  have hs2 := setCells_same g [Value.int .i64 0] (l.length - 1) (W.drew.setCells g i ((l.map (Value.int .i64)).drop (i + 1)))
  obtain ⟨γ', κ', k1, k2, k3⟩ := hC.swap (b := ⟨3, 1, l.map (cK .i64)⟩) hb (g' := g) (k' := κ id) (rows' := (delL l i).map (cK .i64)) h2
    (fun x hx _ => (setCells_far g x hx _ _ _).trans (setCells_far g x hx _ _ _)) (by rw [hs2.2.2.2, hs1.2.2.2]; exact Nat.le_refl _) (hs2.1.trans hs1.1) (hs2.2.1.trans hs1.2.1) (hs2.2.2.1.trans hs1.2.2.1) (.inl hg)
    (fun _ => ⟨hg, rfl⟩) (by rw [hnew, hml, List.length_map]; omega) (cK_row _) (cK_cell _) (by rw [hnew, hml]; omega) hmax' (by simp only [List.length_append, List.length_map, hml]; show _ = κ id * 1; omega) hrep
  exact ⟨_, γ', κ', rfl, k1, hsub k2 (by omega)⟩
end Go.Proofs.YtjjdabihnmilgaaGreat.A
namespace Go.Proofs.YtjjdabihnmilgaaGreat.A
open Go.RowKit
set_option linter.unusedVariables false
set_option linter.unusedSimpArgs false
set_option maxRecDepth 100000
set_option maxHeartbeats 4000000
theorem call201 : Callable Tryz.prog 201 := fun vs w => by
  unfold callFunc
  have hp : (program).run Tryz.prog w = .ok Tryz.prog w := rfl
  rw [run_bind hp, Tryz.func201]
  rfl
theorem iav_val {M : Mm} {n : Int} {v : Value} (h : RepA M (iav n) v) : v = .int .i64 n := by
  cases h with | imm _ _ h => exact h.int_inv
theorem delI_c (l : List Int) (i : Int) (h0 : 0 ≤ i) (h1 : i < l.length) (hl : l.length ≤ 1000000000) : GenC Tryz.prog 201 [⟨3, 1, l.map cI⟩] [.os 0 l.length, iav i, iav (i + 1)] (.sub 0 (delL l i.toNat).length 0 (l.length - 1)) [⟨3, 1, (delL l i.toNat).map cI⟩] := by
  refine ⟨call201, fun W X γ κ xs hC hargs => ?_⟩
  obtain ⟨k, rfl⟩ : ∃ k : Nat, i = k := ⟨i.toNat, by omega⟩
  have hk : k < l.length := by omega
  rw [Int.toNat_natCast]
  cases hargs with
  | cons a0 t =>
    cases t with
    | cons a1 t =>
      cases t with
      | cons a2 t =>
        cases t
        have e0 := a0.os_val (b := ⟨3, 1, l.map cI⟩) rfl (by simp)
        have e2 := iav_val a2
        have e1 := iav_val a1
        subst e0 e1 e2
        have h := coreDelI hC (id := 0) (l := l) (i := k) rfl hk hl
        refine h.mono ?_
        rintro e W' ⟨y, γ', κ', rfl, hC', hr⟩
        exact ⟨y, γ', κ', rfl, hC', hr⟩
def cutL (l : List Int) (i : Int) : List Int := l.take i.toNat ++ l.drop (i.toNat + 1)
theorem cutL_len (l : List Int) (i : Int) (h0 : 0 ≤ i) (h1 : i < l.length) : (cutL l i).length = l.length - 1 := by
  unfold cutL
  simp only [List.length_append, List.length_take, List.length_drop]; omega
theorem cutL_del (l : List Int) (i : Int) (h0 : 0 ≤ i) (h1 : i < l.length) : (delL l i.toNat).take (l.length - 1) = cutL l i := delL_take l i.toNat (by omega)
def remFM (f : List Node) (node parent idx : Int) : List Node :=
  updAt (updAt f (parent - 1) { atI f (parent - 1) with kids := cutL (atI f (parent - 1)).kids idx }) (node - 1)
    { atI (updAt f (parent - 1) { atI f (parent - 1) with kids := cutL (atI f (parent - 1)).kids idx }) (node - 1) with parent := 0 }
theorem remFM_len (f : List Node) (node parent idx : Int) : (remFM f node parent idx).length = f.length := by unfold remFM updAt; simp
theorem remove_c (f : List Node) (c : Change) (hf : Fit f) (h1 : 1 ≤ c.node) (h2 : c.node ≤ f.length) (h3 : 1 ≤ c.parent) (h4 : c.parent ≤ f.length) (hi0 : 0 ≤ c.index) (hi1 : c.index < (atI f (c.parent - 1)).kids.length) (hkid : atI (atI f (c.parent - 1)).kids c.index = c.node) : GenC Tryz.prog 148 [⟨24, 1, [[.os 1 f.length]]⟩, ⟨81, 16, rowsK f (c.parent - 1) (.os 2 (atI f (c.parent - 1)).kids.length)⟩, ⟨3, 1, (atI f (c.parent - 1)).kids.map cI⟩] [.ptr 0 1 0 0, c.av] (bav true) [⟨24, 1, [[.os 1 f.length]]⟩, ⟨81, 16, rowsK (remFM f c.node c.parent c.index) (c.parent - 1) (.sub 2 (delL (atI f (c.parent - 1)).kids c.index.toNat).length 0 ((atI f (c.parent - 1)).kids.length - 1))⟩, ⟨3, 1, (delL (atI f (c.parent - 1)).kids c.index.toNat).map cI⟩] := by
  have hl := hf.len
  have hR := rowsK_len f (c.parent - 1) (.os 2 (atI f (c.parent - 1)).kids.length)
  have hsc : (rowsK f (c.parent - 1) (.os 2 (atI f (c.parent - 1)).kids.length)).all (fun r => r.all (AV.sc1 3)) = true := rowsK_sc f _ _ 3 rfl
  have eN : ∀ n, renB (rho [0, 1, 2] n) ⟨81, 16, rowsK f (c.parent - 1) (.os 2 (atI f (c.parent - 1)).kids.length)⟩ = ⟨81, 16, rowsK f (c.parent - 1) (.os 2 (atI f (c.parent - 1)).kids.length)⟩ := fun n => renB_id (rho3 n) hsc
  have eK : ∀ n, renB (rho [0, 1, 2] n) ⟨3, 1, (atI f (c.parent - 1)).kids.map cI⟩ = ⟨3, 1, (atI f (c.parent - 1)).kids.map cI⟩ := fun n => renB_cI _ _ _ _
  obtain ⟨nd, hnd⟩ : ∃ nd, nd = atI f (c.node - 1) := ⟨_, rfl⟩
  obtain ⟨kk, hkk, hnode⟩ : ∃ kk : AV, kk = (if c.node - 1 = c.parent - 1 then (.os 2 (atI f (c.parent - 1)).kids.length) else .imm (.sl (nd.kids.map i64))) ∧ atI (rowsK f (c.parent - 1) (.os 2 (atI f (c.parent - 1)).kids.length)) (c.node - 1) = nodeRow nd kk := by
    refine ⟨_, rfl, ?_⟩
    rw [rowsK_at f _ _ (by omega) (by omega) _ (by omega) (by omega), hnd]
    split
    · rename_i e; rw [e]
    · rfl
  have hpar : atI (rowsK f (c.parent - 1) (.os 2 (atI f (c.parent - 1)).kids.length)) (c.parent - 1) = nodeRow (atI f (c.parent - 1)) (.os 2 (atI f (c.parent - 1)).kids.length) := by
    rw [rowsK_at f _ _ (by omega) (by omega) _ (by omega) (by omega), if_pos rfl]
  obtain ⟨R1, hR1⟩ : ∃ R1, R1 = (rowsK f (c.parent - 1) (.os 2 (atI f (c.parent - 1)).kids.length)).set (c.parent - 1).toNat (nodeRow (atI f (c.parent - 1)) (.sub 2 (delL (atI f (c.parent - 1)).kids c.index.toNat).length 0 ((atI f (c.parent - 1)).kids.length - 1))) := ⟨_, rfl⟩
  have hR1l : R1.length = f.length := by rw [hR1, List.length_set, hR]
  obtain ⟨kk2, hkk2, hnode2⟩ : ∃ kk2 : AV, kk2 = (if c.node - 1 = c.parent - 1 then (.sub 2 (delL (atI f (c.parent - 1)).kids c.index.toNat).length 0 ((atI f (c.parent - 1)).kids.length - 1)) else .imm (.sl (nd.kids.map i64))) ∧ atI R1 (c.node - 1) = nodeRow nd kk2 := by
    refine ⟨_, rfl, ?_⟩
    rw [hR1, atI_set _ _ _ _ (by omega) (by omega) (by omega), hnd]
    split
    · rename_i e; rw [e]
    · rename_i e
      rw [rowsK_at f _ _ (by omega) (by omega) _ (by omega) (by omega), if_neg e]; rfl
  have hfin : R1.set (c.node - 1).toNat (nodeRow { nd with parent := 0 } kk2) = rowsK (remFM f c.node c.parent c.index) (c.parent - 1) (.sub 2 (delL (atI f (c.parent - 1)).kids c.index.toNat).length 0 ((atI f (c.parent - 1)).kids.length - 1)) := by
    have hil := remFM_len f c.node c.parent c.index
    have hul : ∀ n, (updAt f (c.parent - 1) n).length = f.length := fun n => by unfold updAt; simp
    refine ext_atI (by rw [List.length_set, rowsK_len, hil, hR1l]) fun i g0 g1 => ?_
    rw [List.length_set] at g1
    rw [atI_set _ _ _ _ (by omega) (by omega) g0, rowsK_at _ _ _ (by omega) (by omega) _ g0 (by omega)]
    have hat : ∀ j : Int, 0 ≤ j → j < f.length → atI (remFM f c.node c.parent c.index) j = if j = c.node - 1 then { (if c.node - 1 = c.parent - 1 then { atI f (c.parent - 1) with kids := cutL (atI f (c.parent - 1)).kids c.index } else atI f (c.node - 1)) with parent := 0 } else if j = c.parent - 1 then { atI f (c.parent - 1) with kids := cutL (atI f (c.parent - 1)).kids c.index } else atI f j := by
      intro j j0 j1
      unfold remFM
      rw [show updAt (updAt f (c.parent - 1) { atI f (c.parent - 1) with kids := cutL (atI f (c.parent - 1)).kids c.index }) (c.node - 1) { atI (updAt f (c.parent - 1) { atI f (c.parent - 1) with kids := cutL (atI f (c.parent - 1)).kids c.index }) (c.node - 1) with parent := 0 } = (updAt f (c.parent - 1) { atI f (c.parent - 1) with kids := cutL (atI f (c.parent - 1)).kids c.index }).set (c.node - 1).toNat { atI (updAt f (c.parent - 1) { atI f (c.parent - 1) with kids := cutL (atI f (c.parent - 1)).kids c.index }) (c.node - 1) with parent := 0 } from rfl]
      rw [atI_set _ _ _ _ (by omega) (by rw [hul]; omega) j0]
      unfold updAt
      rw [atI_set _ _ _ _ (by omega) (by omega) (by omega), atI_set _ _ _ _ (by omega) (by omega) j0]
    by_cases e1 : i = c.node - 1
    · rw [if_pos e1]
      by_cases e2 : c.node - 1 = c.parent - 1
      · rw [if_pos (by omega), hat _ (by omega) (by omega), if_pos (by omega), if_pos e2, hkk2, if_pos e2, hnd, e2]; rfl
      · rw [if_neg (by omega), hat _ g0 (by omega), if_pos e1, if_neg e2, hkk2, if_neg e2, hnd]; rfl
    · rw [if_neg e1, hR1, atI_set _ _ _ _ (by omega) (by omega) g0]
      by_cases e2 : i = c.parent - 1
      · rw [if_pos e2, if_pos e2, hat _ (by omega) (by omega), if_neg (by omega), if_pos rfl]; rfl
      · rw [if_neg e2, if_neg e2, rowsK_at f _ _ (by omega) (by omega) _ g0 (by omega), if_neg e2, hat _ g0 (by omega), if_neg e1, if_neg e2]
  have hscF : (rowsK (remFM f c.node c.parent c.index) (c.parent - 1) (.sub 2 (delL (atI f (c.parent - 1)).kids c.index.toNat).length 0 ((atI f (c.parent - 1)).kids.length - 1))).all (fun r => r.all (AV.sc1 3)) = true := rowsK_sc _ _ _ 3 rfl
  have gnode := get_atI (by omega) (by omega) hnode
  have gpar := get_atI (by omega) (by omega) hpar
  have gnode2 := get_atI (by omega) (by omega) hnode2
  refine GenC.mk tabs Tryz.func148 59 [.tmp 4] rfl rfl rfl rfl rfl ?_; intro w0 X γ κ
  have gkid : ((atI f (c.parent - 1)).kids.map cI)[c.index.toNat]? = some (cI c.node) := by
    rw [List.getElem?_map, atI_get hi0 hi1, hkid]; rfl
  have hkb := (hf.atI (c.parent - 1) (by omega) (by omega)).kids
  (repeat' (first | ((with_reducible show AL _ _ _ _ _); first | (refine AL.step tabs rfl ?_; try dsimp only [len, List.nil_append, List.cons_append]) | refine AL.callG [0, 1, 2] 4 rfl rfl rfl rfl rfl (caps := []) rfl (ends2_c f (rowsK f (c.parent - 1) (.os 2 (atI f (c.parent - 1)).kids.length)) (atI f (c.parent - 1)).kids c hR hl hsc h1 h2 h3 h4) rfl (by simp only [List.map_cons, List.map_nil, eN, eK]; rfl) rfl rfl (by simp only [List.all_cons, List.all_nil, Bool.and_true, Bool.and_eq_true]; exact ⟨rfl, hsc, (by simp only [List.all_cons, List.all_nil, List.all_map, Function.comp_def, cI, cB, iav, bav, AV.sc1, AV.sc0, Bool.and_true, Bool.and_self, all_tt]; try rfl)⟩) rfl (by simp only [List.all_cons, List.all_nil, Bool.and_true, Bool.and_eq_true]; exact ⟨rfl, hsc, (by simp only [List.all_cons, List.all_nil, List.all_map, Function.comp_def, cI, cB, iav, bav, AV.sc1, AV.sc0, Bool.and_true, Bool.and_self, all_tt]; try rfl)⟩) rfl (hpA := [⟨24, 1, [[.os 1 f.length]]⟩, ⟨81, 16, rowsK f (c.parent - 1) (.os 2 (atI f (c.parent - 1)).kids.length)⟩, ⟨3, 1, (atI f (c.parent - 1)).kids.map cI⟩]) (by simp only [List.map_cons, List.map_nil, eN, eK]; rfl) (r' := .tup [.ptr 1 f.length (c.node - 1).toNat 0, .ptr 1 f.length (c.parent - 1).toNat 0]) rfl rfl ?_ | refine AL.ope rfl (OpOK.nilCheckO (b := ⟨81, 16, R1⟩) rfl rfl rfl (by rw [hR1]; rfl) hR1l.symm) rfl ?_ | refine AL.ope rfl (OpOK.fieldAddrO (b := ⟨81, 16, R1⟩) tabs rfl rfl rfl rfl rfl rfl rfl (by rw [hR1]; rfl) hR1l.symm) rfl ?_ | refine AL.ope rfl (OpOK.store_own (i := ti3) (v := iav 0) (b := ⟨81, 16, R1⟩) (r := nodeRow nd kk2) tabs rfl rfl rfl rfl rfl (by rw [← nth_eq, hR1]; rfl) hR1l.symm rfl rfl (Nat.le_of_ble_eq_true rfl) gnode2) rfl ?_ | refine AL.nil ?_ | (refine AL.gsplitE rfl rfl rfl (fun hc => ?_) (fun hc => ?_) <;> (fail_if_success (exact absurd hc (by decide))) <;> (try simp only [hsx] at hc) <;> (try first | (exfalso; omega) | contradiction | (exfalso; simp [dec_eq] at hc; done))) | (refine AL.op rfl (OpOK.ari64 rfl rfl rfl rfl rfl (by omega) (by omega)) ?_) | (refine AL.op rfl (OpOK.index_map tabs rfl rfl rfl rfl rfl rfl rfl (fun _ => rfl) (by decide) (by omega) (by omega)) ?_)) | ((with_reducible show DQ _ _ _ _ _ _); first | refine DQ.stepc (LS.ari64 rfl rfl rfl rfl rfl rfl (by omega) (by omega)) rfl rfl rfl rfl rfl ?_ | refine DQ.stepc (LS.ptrnil (b := ⟨81, 16, rowsK f (c.parent - 1) (.os 2 (atI f (c.parent - 1)).kids.length)⟩) tabs rfl rfl rfl u205 rfl rfl hR.symm rfl) rfl rfl rfl rfl rfl ?_ | refine DQ.stepc (LS.nilCheck (b := ⟨81, 16, rowsK f (c.parent - 1) (.os 2 (atI f (c.parent - 1)).kids.length)⟩) rfl rfl rfl rfl rfl hR.symm) rfl rfl rfl rfl rfl ?_ | refine DQ.stepc (LS.fieldAddr (b := ⟨81, 16, rowsK f (c.parent - 1) (.os 2 (atI f (c.parent - 1)).kids.length)⟩) tabs rfl rfl rfl rfl rfl rfl rfl rfl rfl hR.symm) rfl rfl rfl rfl rfl ?_ | refine DQ.stepc (LS.load_own (i := ti78) (r := nodeRow (atI f (c.parent - 1)) (.os 2 (atI f (c.parent - 1)).kids.length)) (b := ⟨81, 16, rowsK f (c.parent - 1) (.os 2 (atI f (c.parent - 1)).kids.length)⟩) (row := (c.parent - 1).toNat) tabs rfl rfl rfl rfl rfl rfl hR.symm gpar rfl) rfl rfl rfl rfl rfl ?_ | refine DQ.stepc (LS.len_os (b := ⟨3, 1, (atI f (c.parent - 1)).kids.map cI⟩) tabs rfl rfl rfl rfl rfl rfl rfl (by simp)) rfl rfl rfl rfl rfl ?_ | refine DQ.stepc (LS.index_own (b := ⟨3, 1, (atI f (c.parent - 1)).kids.map cI⟩) tabs rfl rfl rfl rfl rfl rfl rfl rfl rfl (by simp) rfl (by omega) (by omega)) rfl rfl rfl rfl rfl ?_ | refine DQ.stepc (LS.load_own (i := ti3) (r := cI c.node) (b := ⟨3, 1, (atI f (c.parent - 1)).kids.map cI⟩) (row := c.index.toNat) tabs rfl rfl rfl rfl rfl rfl (by simp) gkid rfl) rfl rfl rfl rfl rfl ?_ | refine DQ.stepc (LS.store (i := ti78) (v := (.sub 2 (delL (atI f (c.parent - 1)).kids c.index.toNat).length 0 ((atI f (c.parent - 1)).kids.length - 1))) (ty := 81) (sz := 16) (rows := rowsK f (c.parent - 1) (.os 2 (atI f (c.parent - 1)).kids.length)) (r := nodeRow (atI f (c.parent - 1)) (.os 2 (atI f (c.parent - 1)).kids.length)) tabs rfl rfl rfl rfl rfl rfl rfl hR.symm rfl rfl (by decide) gpar) rfl rfl rfl rfl rfl ?_ | refine DQ.stepc (LS.val tabs rfl rfl rfl) rfl rfl rfl rfl rfl ?_ | refine DQ.stepc (LS.skip rfl rfl) rfl rfl rfl rfl rfl ?_ | refine DQ.nilM (by kernel_rfl) ?_ | refine DQ.stepc (LS.ari64 rfl rfl rfl rfl rfl rfl (by omega) (by omega)) rfl rfl rfl rfl rfl ?_ | refine DQ.stepc (LS.index_map tabs rfl rfl rfl rfl rfl rfl rfl rfl (fun _ => rfl) (by decide) (by omega) (by omega)) rfl rfl rfl rfl rfl ?_ | (refine DQ.gsplitE rfl rfl rfl (fun hc => ?_) (fun hc => ?_) <;> (fail_if_success (exact absurd hc (by decide))) <;> (try simp only [hsx] at hc) <;> (try first | (exfalso; omega) | contradiction | (exfalso; simp [dec_eq] at hc; done)))) | ((with_reducible show M2.DQ _ _ _ _ _ _); first | refine M2.DQ.step2 (M2.LS.callG [2] (caps := []) rfl rfl rfl rfl rfl (delI_c (atI f (c.parent - 1)).kids c.index hi0 hi1 hkb) (fun _ => rfl) (bs := [⟨3, 1, (atI f (c.parent - 1)).kids.map cI⟩]) rfl (fun n => by simp only [List.map_cons, List.map_nil, renB_cI]) rfl rfl (by simp only [List.all_cons, List.all_nil, List.all_map, Function.comp_def, cI, cB, iav, bav, AV.sc1, AV.sc0, Bool.and_true, Bool.and_self, all_tt]; try rfl) rfl (by simp only [List.all_cons, List.all_nil, List.all_map, Function.comp_def, cI, cB, iav, bav, AV.sc1, AV.sc0, Bool.and_true, Bool.and_self, all_tt]; try rfl) rfl (hpA := [⟨3, 1, (delL (atI f (c.parent - 1)).kids c.index.toNat).map cI⟩]) (fun n => by simp only [List.map_cons, List.map_nil, renB_cI]) (r' := .sub 2 (delL (atI f (c.parent - 1)).kids c.index.toNat).length 0 ((atI f (c.parent - 1)).kids.length - 1)) (fun _ => rfl)) rfl rfl rfl rfl rfl ?_ | refine M2.DQ.stepc (LS.ari64 rfl rfl rfl rfl rfl rfl (by omega) (by omega)) rfl rfl rfl rfl rfl ?_ | refine M2.DQ.stepc (LS.ptrnil (b := ⟨81, 16, rowsK f (c.parent - 1) (.os 2 (atI f (c.parent - 1)).kids.length)⟩) tabs rfl rfl rfl u205 rfl rfl hR.symm rfl) rfl rfl rfl rfl rfl ?_ | refine M2.DQ.stepc (LS.nilCheck (b := ⟨81, 16, rowsK f (c.parent - 1) (.os 2 (atI f (c.parent - 1)).kids.length)⟩) rfl rfl rfl rfl rfl hR.symm) rfl rfl rfl rfl rfl ?_ | refine M2.DQ.stepc (LS.fieldAddr (b := ⟨81, 16, rowsK f (c.parent - 1) (.os 2 (atI f (c.parent - 1)).kids.length)⟩) tabs rfl rfl rfl rfl rfl rfl rfl rfl rfl hR.symm) rfl rfl rfl rfl rfl ?_ | refine M2.DQ.stepc (LS.load_own (i := ti78) (r := nodeRow (atI f (c.parent - 1)) (.os 2 (atI f (c.parent - 1)).kids.length)) (b := ⟨81, 16, rowsK f (c.parent - 1) (.os 2 (atI f (c.parent - 1)).kids.length)⟩) (row := (c.parent - 1).toNat) tabs rfl rfl rfl rfl rfl rfl hR.symm gpar rfl) rfl rfl rfl rfl rfl ?_ | refine M2.DQ.stepc (LS.len_os (b := ⟨3, 1, (atI f (c.parent - 1)).kids.map cI⟩) tabs rfl rfl rfl rfl rfl rfl rfl (by simp)) rfl rfl rfl rfl rfl ?_ | refine M2.DQ.stepc (LS.index_own (b := ⟨3, 1, (atI f (c.parent - 1)).kids.map cI⟩) tabs rfl rfl rfl rfl rfl rfl rfl rfl rfl (by simp) rfl (by omega) (by omega)) rfl rfl rfl rfl rfl ?_ | refine M2.DQ.stepc (LS.load_own (i := ti3) (r := cI c.node) (b := ⟨3, 1, (atI f (c.parent - 1)).kids.map cI⟩) (row := c.index.toNat) tabs rfl rfl rfl rfl rfl rfl (by simp) gkid rfl) rfl rfl rfl rfl rfl ?_ | refine M2.DQ.stepc (LS.store (i := ti78) (v := (.sub 2 (delL (atI f (c.parent - 1)).kids c.index.toNat).length 0 ((atI f (c.parent - 1)).kids.length - 1))) (ty := 81) (sz := 16) (rows := rowsK f (c.parent - 1) (.os 2 (atI f (c.parent - 1)).kids.length)) (r := nodeRow (atI f (c.parent - 1)) (.os 2 (atI f (c.parent - 1)).kids.length)) tabs rfl rfl rfl rfl rfl rfl rfl hR.symm rfl rfl (by decide) gpar) rfl rfl rfl rfl rfl ?_ | refine M2.DQ.stepc (LS.val tabs rfl rfl rfl) rfl rfl rfl rfl rfl ?_ | refine M2.DQ.stepc (LS.skip rfl rfl) rfl rfl rfl rfl rfl ?_ | refine M2.DQ.nilM (by kernel_rfl) ?_ | refine M2.DQ.stepc (LS.ari64 rfl rfl rfl rfl rfl rfl (by omega) (by omega)) rfl rfl rfl rfl rfl ?_ | refine M2.DQ.stepc (LS.index_map tabs rfl rfl rfl rfl rfl rfl rfl rfl (fun _ => rfl) (by decide) (by omega) (by omega)) rfl rfl rfl rfl rfl ?_ | (refine M2.DQ.gsplitE rfl rfl rfl (fun hc => ?_) (fun hc => ?_) <;> (fail_if_success (exact absurd hc (by decide))) <;> (try simp only [hsx] at hc) <;> (try first | (exfalso; omega) | contradiction | (exfalso; simp [dec_eq] at hc; done)))) | refine M2.drawW (id := 4) mixed (by kernel_rfl) ?_ | refine AW.seq ?_ | refine AW.region ?_ | refine Then.norm ?_ | refine AW.skip ?_ | refine AW.condT rfl ?_ | refine AW.condF rfl ?_ | (refine AW.cond rfl (fun hc => ?_) (fun hc => ?_) <;> (try simp only [hsx] at hc) <;> (try first | (exfalso; omega) | contradiction | (exfalso; simp [dec_eq] at hc; done))) | refine AW.ret ?_ | refine Then.ret ?_ | refine AW.drawW mixed (by kernel_rfl) ?_))
  all_goals first
    | (exfalso; omega)
    | (refine RG.ret 3 rfl rfl (by rw [← hfin]; rfl) rfl ?_ (by simp [cxG])
       simp only [List.all_cons, List.all_nil, Bool.and_true, Bool.and_eq_true]
       exact ⟨rfl, hscF, (by simp only [List.all_cons, List.all_nil, List.all_map, Function.comp_def, cI, cB, iav, bav, AV.sc1, AV.sc0, Bool.and_true, Bool.and_self, all_tt]; try rfl)⟩)
    | (trace_state; sorry)
end Go.Proofs.YtjjdabihnmilgaaGreat.A
namespace Go.Proofs.YtjjdabihnmilgaaGreat.A
open Go.RowKit
set_option linter.unusedVariables false
set_option linter.unusedSimpArgs false
set_option maxRecDepth 100000
set_option maxHeartbeats 4000000
theorem remFM_kids (f : List Node) (node parent idx : Int) (h1 : 1 ≤ node) (h2 : node ≤ f.length) (h3 : 1 ≤ parent) (h4 : parent ≤ f.length) : (atI (remFM f node parent idx) (parent - 1)).kids = cutL (atI f (parent - 1)).kids idx := by
  unfold remFM
  rw [atI_upd _ _ _ (by omega) (by rw [upd_len]; omega) _ (by omega)]
  by_cases e : parent - 1 = node - 1
  · rw [if_pos e, ← e, atI_upd _ _ _ (by omega) (by omega) _ (by omega), if_pos rfl]
  · rw [if_neg e, atI_upd _ _ _ (by omega) (by omega) _ (by omega), if_pos rfl]
theorem remFM_fit (f : List Node) (c : Change) (hf : Fit f) (h1 : 1 ≤ c.node) (h2 : c.node ≤ f.length) (h3 : 1 ≤ c.parent) (h4 : c.parent ≤ f.length) (hi0 : 0 ≤ c.index) (hi1 : c.index < (atI f (c.parent - 1)).kids.length) : Fit (remFM f c.node c.parent c.index) := by
  have e1 : Fit (updAt f (c.parent - 1) { atI f (c.parent - 1) with kids := cutL (atI f (c.parent - 1)).kids c.index }) := by
    have := hf.atI (c.parent - 1) (by omega) (by omega)
    have hk := this.kids
    exact upd_fit hf ⟨this.data, this.attrs, by show (cutL _ _).length ≤ _; rw [cutL_len _ _ hi0 hi1]; omega⟩
  unfold remFM
  have := e1.atI (c.node - 1) (by omega) (by rw [upd_len]; omega)
  exact upd_fit e1 ⟨this.data, this.attrs, this.kids⟩
theorem fzKs {C : Cx} {s : St} {f : List Node} {p : Int} {id kid m : Nat} {all : List Int} (hp : 0 ≤ p) (hp1 : p < f.length) (hm : (atI f p).kids = all.take m) (hb : nth s.hp id = some ⟨81, 16, rowsK f p (.sub kid all.length 0 m)⟩) (hk : nth s.hp kid = some ⟨3, 1, all.map cI⟩) : Fz C s (.agg [.os id f.length]) (fav f) := by
  refine Fz.agg (.cons (Fz.osN (b := ⟨81, 16, rowsK f p (.sub kid all.length 0 m)⟩) hb (rowsK_len _ _ _).symm (by simp [rowsK_len]) (by
    intro r hr
    obtain ⟨n, _, rfl⟩ := List.mem_map.1 hr
    rfl) (all2_flat ?_)) .nil)
  have h1 : All2 (All2 (FzI C s)) (f.map rowS) (f.map Node.iv) := all2_map_both (fun n => fzRow (FzI.imm _)) f
  have hs := Fz.sub (C := C) (s := s) (id := kid) (ver := all.length) (off := 0) (n := m) (b := ⟨3, 1, all.map cI⟩) hk (by simp) (all := all.map i64) (by rw [List.map_map]; rfl)
  rw [List.drop_zero, ← List.map_take, ← hm] at hs
  have h2 : All2 (FzI C s) (nodeRow (atI f p) (.sub kid all.length 0 m)) (atI f p).iv := fzRow (FzI.of hs)
  have h3 := h1.set h2 p.toNat
  have e : (f.map Node.iv).set p.toNat (atI f p).iv = f.map Node.iv := by
    have := set_same (f.map Node.iv) p hp (by simpa using hp1)
    rw [atI_map _ _ _ hp hp1] at this
    exact this
  rw [e] at h3
  exact h3
noncomputable def doneX (f : List Node) (c : Change) : List Node × Int := if dec (rightP (remFM f c.node c.parent c.index)) = true then (remFM f c.node c.parent c.index, 0) else ([], 2)
theorem doneRm_c (f : List Node) (c : Change) (hf : Fit f) (h0 : 0 < f.length) (hck : c.kind = 3) (hcp : plainLn c = c) (h1 : 1 ≤ c.node) (h2 : c.node ≤ f.length) (h3 : 1 ≤ c.parent) (h4 : c.parent ≤ f.length) (hi0 : 0 ≤ c.index) (hi1 : c.index < (atI f (c.parent - 1)).kids.length) (hkid : atI (atI f (c.parent - 1)).kids c.index = c.node) : PureC Tryz.prog 45 [fav f, c.av] (.tup [fav (doneX f c).1, iav (doneX f c).2]) := by
  have hk : (atI f (c.parent - 1)).kids ≠ [] := fun e => by rw [e] at hi1; simp at hi1; omega
  have hsame : PureC Tryz.prog 92 [c.av, (plainLn c).av] (bav true) := by
    rw [hcp]
    exact sameSelf_c c (by rw [← hcp]; simp [plainLn, c0]) (by rw [← hcp]; exact fit0) (by rw [← hcp]; simp [plainLn, c0]) (by rw [← hcp]; simp [plainLn, c0]) (by omega) (by omega)
  have hins := remove_c f c hf h1 h2 h3 h4 hi0 hi1 hkid
  have hfst : ∀ j : Nat, j < 2 → stepKeys[j]? ≠ some c.kind := by
    intro j hj
    rcases (show j = 0 ∨ j = 1 by omega) with rfl | rfl <;> (rw [hck]; decide)
  have hil := remFM_len f c.node c.parent c.index
  have hki : (atI (remFM f c.node c.parent c.index) (c.parent - 1)).kids = cutL (atI f (c.parent - 1)).kids c.index := remFM_kids f c.node c.parent c.index h1 h2 h3 h4
  have hfi := remFM_fit f c hf h1 h2 h3 h4 hi0 hi1
  have fzI_ : ∀ {C : Cx} {s : St}, nth s.hp 0 = some ⟨81, 16, rowsK (remFM f c.node c.parent c.index) (c.parent - 1) (.sub 1 (delL (atI f (c.parent - 1)).kids c.index.toNat).length 0 ((atI f (c.parent - 1)).kids.length - 1))⟩ → nth s.hp 1 = some ⟨3, 1, (delL (atI f (c.parent - 1)).kids c.index.toNat).map cI⟩ → Fz C s (.agg [.os 0 f.length]) (fav (remFM f c.node c.parent c.index)) := by
    intro C s g1 g2
    have := fzKs (C := C) (s := s) (f := remFM f c.node c.parent c.index) (p := c.parent - 1) (id := 0) (kid := 1) (m := (atI f (c.parent - 1)).kids.length - 1) (all := delL (atI f (c.parent - 1)).kids c.index.toNat) (by omega) (by omega) (by rw [hki, cutL_del _ _ hi0 hi1]) g1 g2
    rw [hil] at this
    exact this
  refine PureC.mk tabs Tryz.func45 51 [.cell 4 24, .tmp 5] rfl rfl rfl rfl rfl ?_; intro w0 X
  refine AW.reserve 81 16 rfl ?_
  refine AW.reserve 3 1 rfl ?_
  refine AW.reserve 140 4 rfl ?_
  (repeat' (first | ((with_reducible show AL _ _ _ _ _); first | (refine AL.step tabs rfl ?_; try dsimp only [len, List.nil_append, List.cons_append]) | refine AL.callG [0, 1] 6 rfl rfl rfl rfl rfl (caps := []) rfl (copyOfK_c f (c.parent - 1) hf (by omega) (by omega) hk) rfl rfl rfl rfl rfl rfl (by simp only [List.all_cons, List.all_nil, Bool.and_true, Bool.and_eq_true]; exact ⟨rowsK_sc _ _ _ _ rfl, (by simp only [List.all_cons, List.all_nil, List.all_map, Function.comp_def, cI, cB, iav, bav, AV.sc1, AV.sc0, Bool.and_true, Bool.and_self, all_tt]; try rfl)⟩) rfl (hpA := [⟨81, 16, rowsK f (c.parent - 1) (.os 1 (atI f (c.parent - 1)).kids.length)⟩, ⟨3, 1, (atI f (c.parent - 1)).kids.map cI⟩]) (by simp only [List.map_cons, List.map_nil, rowsK_ren, renB_cI]; rfl) (r' := .agg [.os 0 f.length]) rfl rfl ?_ | refine AL.callG [6, 0, 1] 7 rfl rfl rfl rfl rfl (caps := []) rfl hins rfl (by simp only [List.map_cons, List.map_nil, rowsK_ren, renB_cI]; rfl) rfl rfl (by simp only [List.all_cons, List.all_nil, Bool.and_true, Bool.and_eq_true]; exact ⟨rfl, rowsK_sc _ _ _ _ rfl, (by simp only [List.all_cons, List.all_nil, List.all_map, Function.comp_def, cI, cB, iav, bav, AV.sc1, AV.sc0, Bool.and_true, Bool.and_self, all_tt]; try rfl)⟩) rfl (by simp only [List.all_cons, List.all_nil, Bool.and_true, Bool.and_eq_true]; exact ⟨rfl, rowsK_sc _ _ _ _ rfl, (by simp only [List.all_cons, List.all_nil, List.all_map, Function.comp_def, cI, cB, iav, bav, AV.sc1, AV.sc0, Bool.and_true, Bool.and_self, all_tt]; try rfl)⟩) rfl (hpA := [⟨24, 1, [[.os 0 f.length]]⟩, ⟨81, 16, rowsK (remFM f c.node c.parent c.index) (c.parent - 1) (.sub 1 (delL (atI f (c.parent - 1)).kids c.index.toNat).length 0 ((atI f (c.parent - 1)).kids.length - 1))⟩, ⟨3, 1, (delL (atI f (c.parent - 1)).kids c.index.toNat).map cI⟩]) (by simp only [List.map_cons, List.map_nil, rowsK_ren, renB_cI]; rfl) (r' := bav true) rfl rfl ?_ | refine AL.op rfl (OpOK.callsc rfl rfl rfl rfl (.cons (fzI_ rfl rfl) .nil) (right_c (remFM f c.node c.parent c.index) hfi) rfl) ?_ | refine AL.nil ?_ | (refine AL.gsplitE rfl rfl rfl (fun hc => ?_) (fun hc => ?_) <;> (fail_if_success (exact absurd hc (by decide))) <;> (try simp only [hsx] at hc) <;> (try first | (exfalso; omega) | contradiction | (exfalso; simp [dec_eq] at hc; done)))) | ((with_reducible show DQ _ _ _ _ _ _); first | refine DQ.stepc (LS.call rfl rfl rfl rfl rfl steps_c rfl) rfl rfl rfl rfl rfl ?_ | refine DQ.stepc (LS.lookOk (kf := k8) (q := c.kind) (xs := stepKeys) (i := 2) (v := [.fn 145, .fn 148, .bool false, .any]) key71 Tryz.underlying142 zero140 rfl rfl rfl rfl rfl rfl (by rw [hck]; rfl) hfst rfl) rfl rfl rfl rfl rfl ?_ | refine DQ.stepc (LS.alloc 2 tabs rfl rfl rfl rfl rfl rfl) rfl rfl rfl rfl rfl ?_ | refine DQ.stepc (LS.store (i := ti140) (v := .agg [.imm (.fn 145), .imm (.fn 148), .imm (.bool false), .imm .any]) (ty := 140) (sz := 4) (rows := [ti140.zero]) (r := ti140.zero) tabs rfl rfl rfl rfl rfl rfl rfl rfl rfl rfl (Nat.le_of_ble_eq_true rfl) rfl) rfl rfl rfl rfl rfl ?_ | refine DQ.stepc (LS.call rfl rfl rfl rfl rfl (plainLink_c c) rfl) rfl rfl rfl rfl rfl ?_ | refine DQ.stepc (LS.call rfl rfl rfl rfl rfl hsame rfl) rfl rfl rfl rfl rfl ?_ | refine DQ.stepc (LS.val tabs rfl rfl rfl) rfl rfl rfl rfl rfl ?_ | refine DQ.stepc (LS.skip rfl rfl) rfl rfl rfl rfl rfl ?_ | refine DQ.nilM (by kernel_rfl) ?_ | (refine DQ.gsplitE rfl rfl rfl (fun hc => ?_) (fun hc => ?_) <;> (fail_if_success (exact absurd hc (by decide))) <;> (try simp only [hsx] at hc) <;> (try first | (exfalso; omega) | contradiction | (exfalso; simp [dec_eq] at hc; done)))) | refine AW.seq ?_ | refine AW.region ?_ | refine Then.norm ?_ | refine AW.skip ?_ | refine AW.condT rfl ?_ | refine AW.condF rfl ?_ | (refine AW.cond rfl (fun hc => ?_) (fun hc => ?_) <;> (try simp only [hsx] at hc) <;> (try first | (exfalso; omega) | contradiction | (exfalso; simp [dec_eq] at hc; done))) | refine AW.ret ?_ | refine Then.ret ?_ | refine AW.drawW mixed (by kernel_rfl) ?_))
  all_goals first
    | (rw [show doneX f c = ([], 2) by unfold doneX; rw [if_neg (by rw [dec_true]; exact hc)]]; exact RQ.fin rfl rfl rfl)
    | (rw [show doneX f c = (remFM f c.node c.parent c.index, 0) by unfold doneX; rw [if_pos (by rw [dec_true]; exact hc)]]; exact RQ.ret rfl (Fz.tup (.cons (fzI_ rfl rfl) (.cons (Fz.im rfl) .nil))))
end Go.Proofs.YtjjdabihnmilgaaGreat.A
namespace Go.Proofs.YtjjdabihnmilgaaGreat.A
open Go.RowKit
set_option linter.unusedVariables false
set_option linter.unusedSimpArgs false
set_option maxRecDepth 100000
set_option maxHeartbeats 4000000
/-- What a point becomes by a removal. -/
noncomputable def movR (f : List Node) (c : Change) (b : Bnd) : Bnd := if dec (c.node ∈ ups f b.n) = true then ⟨c.parent, c.index⟩ else if b.n = c.parent ∧ c.index < b.o then ⟨b.n, b.o - 1⟩ else b
theorem moves2_c (f : List Node) (c : Change) (b : Bnd) (hf : Fit f) (hr : rightP f) (h0 : -1000 ≤ b.o) (h1 : b.o ≤ 1000000000) : GenC Tryz.prog 95 [⟨24, 1, [[.imm (.sl (f.map Node.iv))]]⟩, ⟨83, 36, [rowC c]⟩] [b.av, .ptr 0 1 0 0, .ptr 1 1 0 0] (movR f c b).av [⟨24, 1, [[.imm (.sl (f.map Node.iv))]]⟩, ⟨83, 36, [rowC c]⟩] := by
  have c1 := holds_c f c.node b.n hf hr
  unfold movR
  generalize dec (c.node ∈ ups f b.n) = v at *
  obtain ⟨n, o⟩ := b
  simp only at *
  refine GenC.mk tabs Tryz.func95 35 [.cell 4 39] rfl rfl rfl rfl rfl ?_; intro w0 X γ κ
  (repeat' (first | ((with_reducible show AL _ _ _ _ _); first | (refine AL.step tabs rfl ?_; try dsimp only [len, List.nil_append, List.cons_append]) | refine AL.op rfl (OpOK.call rfl rfl rfl rfl c1 rfl) ?_ | refine AL.nil ?_ | (refine AL.gsplitE rfl rfl rfl (fun hc => ?_) (fun hc => ?_) <;> (fail_if_success (exact absurd hc (by decide))) <;> (try simp only [hsx] at hc) <;> (try first | (exfalso; omega) | contradiction | (exfalso; simp [dec_eq] at hc; done))) | (refine AL.op rfl (OpOK.ari64 rfl rfl rfl rfl rfl (by omega) (by omega)) ?_)) | (exfalso; omega) | refine AW.seq ?_ | refine AW.region ?_ | refine Then.norm ?_ | refine AW.skip ?_ | refine AW.block ?_ | refine InB.norm ?_ | refine AW.condT rfl ?_ | refine AW.condF rfl ?_ | (refine AW.cond rfl (fun hc => ?_) (fun hc => ?_) <;> (try simp only [hsx] at hc) <;> (try first | (exfalso; omega) | contradiction | (exfalso; simp [dec_eq] at hc; done))) | refine AW.ret ?_ | refine AW.exit ?_ | refine Then.ret ?_ | refine Then.exit ?_ | refine InB.ret ?_ | refine InB.here ?_ | refine InB.off rfl ?_))
  all_goals first
    | (rw [if_pos hc]; exact RG.ret 2 rfl rfl rfl rfl rfl (by simp [cxG]))
    | (rename_i hv _; rw [if_neg (by rw [hv]; simp), if_pos ⟨by omega, by omega⟩]; exact RG.ret 2 rfl rfl rfl rfl rfl (by simp [cxG]))
    | (rename_i hv _; rw [if_neg (by rw [hv]; simp), if_neg (by omega)]; exact RG.ret 2 rfl rfl rfl rfl rfl (by simp [cxG]))
    | (rename_i hv; rw [if_neg (by rw [hv]; simp), if_neg (by omega)]; exact RG.ret 2 rfl rfl rfl rfl rfl (by simp [cxG]))
    | (rw [if_pos rfl]; exact RG.ret 2 rfl rfl rfl rfl rfl (by simp [cxG]))
    | (trace_state; sorry)
theorem moves_c (f : List Node) (c : Change) (hk : c.kind = 3) : GenC Tryz.prog 49 [] [fav f, c.av] (.fn 95 [.ptr 0 1 0 0, .ptr 1 1 0 0]) [⟨24, 1, [[.imm (.sl (f.map Node.iv))]]⟩, ⟨83, 36, [rowC c]⟩] := by
  refine GenC.mk tabs Tryz.func49 40 [.tmp 4] rfl rfl rfl rfl rfl ?_; intro w0 X γ κ
  (repeat' (first | ((with_reducible show AL _ _ _ _ _); first | (refine AL.step tabs rfl ?_; try dsimp only [len, List.nil_append, List.cons_append]) | refine AL.nil ?_ | (refine AL.gsplitE rfl rfl rfl (fun hc => ?_) (fun hc => ?_) <;> (fail_if_success (exact absurd hc (by decide))) <;> (try simp only [hsx] at hc) <;> (try first | (exfalso; omega) | contradiction | (exfalso; simp [dec_eq] at hc; done)))) | (exfalso; omega) | refine AW.seq ?_ | refine AW.region ?_ | refine Then.norm ?_ | refine AW.skip ?_ | refine AW.block ?_ | refine InB.norm ?_ | refine AW.condT rfl ?_ | refine AW.condF rfl ?_ | (refine AW.cond rfl (fun hc => ?_) (fun hc => ?_) <;> (try simp only [hsx] at hc) <;> (try first | (exfalso; omega) | contradiction | (exfalso; simp [dec_eq] at hc; done))) | refine AW.ret ?_ | refine AW.exit ?_ | refine Then.ret ?_ | refine Then.exit ?_ | refine InB.ret ?_ | refine InB.here ?_ | refine InB.off rfl ?_))
  all_goals first
    | exact RG.ret 2 rfl rfl rfl rfl rfl (by simp [cxG])
    | (trace_state; sorry)
def cR (r : Rng) : List AV := r.iv.map .imm
theorem cR_sc (l : List Rng) (k : Nat) : (l.map cR).all (fun r => r.all (AV.sc1 k)) = true := by
  rw [List.all_map, List.all_eq_true]
  exact fun _ _ => rfl
theorem cloneR_c (l : List Rng) (hl : l.length ≤ 1000000) (hne : l ≠ []) : GenC Tryz.prog 48 [⟨41, 4, []⟩] [.imm (.sl (l.map Rng.iv))] (.os 0 l.length) [⟨41, 4, l.map cR⟩] := by
  have e : (l.map Rng.iv).map (·.map AV.imm) = l.map cR := by simp [cR]
  have e1 : ((l.map Rng.iv).map (·.map AV.imm)).length = l.length := by simp
  refine GenC.mk tabs Tryz.func48 8 [.tmp 2] rfl rfl rfl rfl rfl ?_; intro w0 X γ κ
  (repeat' (first | ((with_reducible show AL _ _ _ _ _); first | refine AL.ope rfl (OpOK.lit0 tabs rfl rfl rfl rfl rfl rfl) rfl ?_ | (refine AL.step tabs rfl ?_; try dsimp only [len, List.nil_append, List.cons_append]) | refine AL.slnil tabs rfl rfl rfl rfl rfl rfl rfl (fun b hb => ?_) | refine AL.ope rfl (OpOK.append_nocap_at 0 (ie := ti41) tabs rfl rfl rfl rfl rfl (by decide) rfl rfl rfl (rows2 := (l.map Rng.iv).map (·.map AV.imm)) (by simpa using hne) (SrcA.imm (rows := l.map Rng.iv) tabs rfl rfl rfl (by simp [Rng.iv, ti41])) (by simp [ti41]; omega) (by simp; omega)) rfl ?_ | refine AL.nil ?_) | refine AW.seq ?_ | refine AW.region ?_ | refine Then.norm ?_ | refine AW.skip ?_ | refine AW.condT rfl ?_ | refine AW.condF rfl ?_ | (refine AW.cond rfl (fun hc => ?_) (fun hc => ?_) <;> (try simp only [hsx] at hc) <;> (try first | (exfalso; omega) | contradiction | (exfalso; simp [dec_eq] at hc; done))) | refine AW.ret ?_ | refine Then.ret ?_))
  · have e : l = [] := by simpa using hb hc
    exact absurd e hne
  · refine RG.ret 1 rfl ?_ ?_ rfl ?_ (by simp [cxG])
    · show AV.os 0 ((l.map Rng.iv).map (·.map AV.imm)).length = _
      rw [e1]
    · show _ = [(⟨41, 4, (l.map Rng.iv).map (·.map AV.imm)⟩ : Blk)]
      rw [e]
    · rw [List.all_cons, List.all_nil, Bool.and_true]
      exact cR_sc l 1
end Go.Proofs.YtjjdabihnmilgaaGreat.A
