/- Contracts on the machine itself: slices.Insert in the middle (I). -/
import Derived.Test.YtmhejcnaanocpaaGreatXRSGrpAR
import Derived.Test.YtmhejcnaanocpaaGreatProg
import Derived.Test.YtmhejcnaanocpaaGreatXRSGrpAM
namespace Go.Proofs.YtmhejcnaanocpaaGreat.A
open Go.Shelf Go.RowKit Go.Lib
set_option linter.unusedVariables false
set_option linter.unusedSimpArgs false
set_option maxHeartbeats 4000000 in
set_option maxRecDepth 100000 in
theorem qgd (b n c i vb voff m vc : Nat) (cs vs : List Value) (w : World) (hi : i < n) (hm : 0 < m) (hroom : n + m ≤ c) (hc63 : c ≤ 9223372036854775807) (hvb : vb ≠ b)
    (hcl : cs.length = n) (hvl : vs.length = m)
    (hcs : ∀ j v, cs[j]? = some v → w.cell? ⟨b, j, none⟩ = some v) (hsp : ∀ j, j < n + m → (w.cell? ⟨b, j, none⟩).isSome = true) (hfz : ∀ j, w.frozen? ⟨b, j, none⟩ = false)
    (hvs : ∀ j v, vs[j]? = some v → w.cell? ⟨vb, voff + j, none⟩ = some v) (h1c : ∀ v ∈ cs, v.oneCell' = true) (h1v : ∀ v ∈ vs, v.oneCell' = true) :
    Calls Tryz.prog 150 #[.slice (some ⟨b, 0, none⟩) n c, .int .i64 i, .slice (some ⟨vb, voff, none⟩) m vc] w fun e w' =>
      e = .returned (.slice (some ⟨b, 0, none⟩) (n + m) c) ∧ w' = (w.drew.setCells b (i + m) (cs.drop i)).setCells b i vs := by
  have mixed : Tryz.prog.follows .mixedOrders = true := by kernel_rfl
  have tS : Tryz.prog.underlying 41 = some (.slice 3) := Tryz.underlying41
  have tI : Tryz.prog.underlying 3 = some (.int .i64) := Tryz.underlying3
  have iE : (Tryz.prog.info? 3).map (fun i => (i.zero, i.size, i.bytes)) = some (some (Value.int .i64 0), 1, 8) := by kernel_rfl
  obtain ⟨i0, hi0, hz0, hzs, hzb⟩ := info_parts iE
  have hsz : (Tryz.prog.info? 3).map (·.size) = some 1 := by rw [hi0]; simp [hzs]
  have hz1 : ¬ ((m : Int) = 0) := by omega
  have hz2 : ¬ ((i : Int) = (n : Int)) := by omega
  have hov : ∀ lb cb, (callFunc 178 #[.slice (some ⟨vb, voff, none⟩) m vc, .slice (some ⟨b, i + m, none⟩) lb cb]).run Tryz.prog w = .ok (.value (.bool false)) w := fun lb cb => by
    obtain ⟨tA, kA, hsa, hkA, _⟩ := cell_shape (hvs 0 _ (List.getElem?_eq_getElem (by omega)))
    obtain ⟨y, hy⟩ := Option.isSome_iff_exists.1 (hsp 0 (by omega))
    obtain ⟨tB, kB, hsb, _⟩ := cell_shape hy
    rw [run_callFunc_extern Tryz.func178 (by kernel_rfl) (by kernel_rfl) (by kernel_rfl) (e := Extern.SlicesOverlaps.overlaps #[41, 41] #[4]) (by kernel_rfl),
      (qbe w 41 4 3 Tryz.underlying41 1 Tryz.sizeOf3 ⟨vb, voff, none⟩ ⟨b, i + m, none⟩ m vc lb cb hvb tA tB kA kB hsa hsb hkA (hfz _) (hfz _)).2]
    rfl
  have hdl : (cs.drop i).length = n - i := by rw [List.length_drop, hcl]
  have hw1 : IntKind.i64.wrap ((i : Int) + (m : Int)) = (i : Int) + (m : Int) := by rw [IntKind.wrap_i64]; omega
  have hb1 : (0 : Int) ≤ (i : Int) + (m : Int) := by omega
  have hin : i ≤ n := by omega
  have htn : ((i : Int) + (m : Int)).toNat = i + m := by omega
  have hb2 : ¬ (c = i + m) := by omega
  have hb3 : (i : Int) ≤ (n : Int) + (m : Int) := by omega
  have hb4 : ¬ (c = i) := by omega
  have hcp1 : ∀ ty dc sc, (Builtin.copy_ #[41, 41] ty #[.slice (some ⟨b, i + m, none⟩) (n + m - (i + m)) dc, .slice (some ⟨b, i, none⟩) (n + m - i) sc]).run Tryz.prog w.drew = .ok (goInt (cs.drop i).length) (w.drew.setCells b (i + m) (cs.drop i)) := fun ty dc sc =>
    run_copy_cells w.drew _ _ ty 3 b (i + m) (n + m - (i + m)) dc ⟨b, i, none⟩ (n + m - i) sc (cs.drop i) tS hsz (by rw [hdl]; simp only [Nat.min_def]; split <;> omega)
      (fun j v hj => by rw [Addr.add_lit]; exact hcs (i + j) v (by rwa [List.getElem?_drop] at hj))
      (fun j hj => hsp _ (by omega)) (fun j hj => hfz _) (fun v hv => h1c v (List.mem_of_mem_drop hv))
  obtain ⟨W1, hW1⟩ : ∃ W1, W1 = w.drew.setCells b (i + m) (cs.drop i) := ⟨_, rfl⟩
  have hsp1 : ∀ k, k < n + m → (W1.cell? ⟨b, k, none⟩).isSome = true := fun k hk => by
    rw [hW1]
    exact isSome_setCells b (cs.drop i) (i + m) w.drew (fun j hj => hsp _ (by omega)) _ (hsp k hk)
  have hcp2 : ∀ (W : World), (∀ x, W.cell? x = W1.cell? x) → (∀ x, W.frozen? x = W1.frozen? x) → ∀ ty dc, (Builtin.copy_ #[41, 41] ty #[.slice (some ⟨b, i, none⟩) (n + m - i) dc, .slice (some ⟨vb, voff, none⟩) m vc]).run Tryz.prog W = .ok (goInt vs.length) (W.setCells b i vs) := fun W hWc hWf ty dc =>
    run_copy_cells W _ _ ty 3 b i (n + m - i) dc ⟨vb, voff, none⟩ m vc vs tS hsz (by rw [hvl]; simp only [Nat.min_def]; split <;> omega)
      (fun j v hj => by
        rw [Addr.add_lit, hWc, hW1, World.cell?_setCells_out b _ _ _ _ (fun h _ => absurd h hvb)]
        exact hvs j v hj)
      (fun j hj => by rw [hWc]; exact hsp1 _ (by omega)) (fun j hj => by rw [hWf, hW1, World.frozen?_setCells]; exact hfz _) h1v
  rw [← hW1] at hcp1
  go_enter Tryz.func150, Tryz.ntmps150
  go_wp2_with (simp only [hov])
  go_region_law_o (refine step_copy_runI rfl _ _ 41 41 rfl _ _ (by simp [Act.eval, Act.put]) (by simp [Act.eval, Act.put]) (hcp1 _ _ _) ?_)
  go_wp2_with (at_builtin; refine wpList_copy_runI _ rfl _ _ 41 41 rfl _ _ rfl rfl (hcp2 _ (fun _ => rfl) (fun _ => rfl) _ _) ?_)
  go_ret
  first | exact ⟨rfl, rfl⟩ | exact ⟨rfl, by rw [hW1]⟩
set_option maxHeartbeats 4000000 in
set_option maxRecDepth 100000 in
theorem qhs (b n c i vb voff m vc : Nat) (cs vs : List Value) (w : World) (hi : i < n) (hm : 0 < m) (hnc : n ≤ c) (hroom : c < n + m) (hbig : (n + m) * 8 ≤ 140737488355328) (hbig2 : n + m ≤ 140737488355328)
    (hcl : cs.length = n) (hvl : vs.length = m)
    (hcs : ∀ j v, cs[j]? = some v → w.cell? ⟨b, j, none⟩ = some v)
    (hvs : ∀ j v, vs[j]? = some v → w.cell? ⟨vb, voff + j, none⟩ = some v) (h1c : ∀ v ∈ cs, v.oneCell' = true) (h1v : ∀ v ∈ vs, v.oneCell' = true) :
    Calls Tryz.prog 150 #[.slice (some ⟨b, 0, none⟩) n c, .int .i64 i, .slice (some ⟨vb, voff, none⟩) m vc] w fun e w' =>
      e = .returned (.slice (some ⟨w.heap.size, 0, none⟩) (n + m) (grownCap w (n + m) c 3)) ∧
      w' = (((w.alloc (.cells ((cs.take i).toArray ++ Builtin.zeroCells (Value.int .i64 0).cells (n + m - i) ++ Builtin.zeroCells (Value.int .i64 0).cells (grownCap w (n + m) c 3 - (n + m))) 3)).drew.setCells w.heap.size i vs).drew).setCells w.heap.size (i + m) (cs.drop i) := by
  have mixed : Tryz.prog.follows .mixedOrders = true := by kernel_rfl
  have tS : Tryz.prog.underlying 41 = some (.slice 3) := Tryz.underlying41
  have tI : Tryz.prog.underlying 3 = some (.int .i64) := Tryz.underlying3
  have iE : (Tryz.prog.info? 3).map (fun i => (i.zero, i.size, i.bytes)) = some (some (Value.int .i64 0), 1, 8) := by kernel_rfl
  obtain ⟨i0, hi0, hz0, hzs, hzb⟩ := info_parts iE
  have hsz : (Tryz.prog.info? 3).map (·.size) = some 1 := by rw [hi0]; simp [hzs]
  have hz1 : ¬ ((m : Int) = 0) := by omega
  have hz2 : ¬ ((i : Int) = (n : Int)) := by omega
  have hz3 : (c : Int) < (n : Int) + (m : Int) := by omega
  have hbw : b < w.heap.size := block_lt_of_cell (hcs 0 _ (List.getElem?_eq_getElem (by omega)))
  have hvw : vb < w.heap.size := block_lt_of_cell (hvs 0 _ (List.getElem?_eq_getElem (by omega)))
  have hkk : (n : Int) + (m : Int) - (i : Int) = ((n + m - i : Nat) : Int) := by omega
  have hik : i + (n + m - i) = n + m := by omega
  have hold : (Builtin.firstCells i0.size i (.slice (some ⟨b, 0, none⟩) i c)).run Tryz.prog w.drew = .ok (cs.take i).toArray w.drew := by
    rw [hzs]
    exact run_firstCells_some w.drew 1 i ⟨b, 0, none⟩ i c (cs.take i) (by rw [List.length_take]; omega) (fun j v hj => by
      rw [Addr.add_lit, Nat.zero_add]
      rw [List.getElem?_take] at hj
      split at hj
      · exact hcs j v hj
      · cases hj)
  have hrz : ∀ ty, (Builtin.append_ #[41, 3] ty #[.slice (some ⟨b, 0, none⟩) i c, .int .i64 ((n : Int) + (m : Int) - (i : Int))]).run Tryz.prog w =
      .ok (.slice (some ⟨w.heap.size, 0, none⟩) (n + m) (grownCap w (n + m) c 3)) (w.drew.alloc (.cells ((cs.take i).toArray ++ Builtin.zeroCells (Value.int .i64 0).cells (n + m - i) ++ Builtin.zeroCells (Value.int .i64 0).cells (grownCap w (n + m) c 3 - (n + m))) 3)) := fun ty => by
    have h := Lib.run_append_grow_zeros w 41 3 ty 3 i0 _ .i64 .i64 tS tI hi0 hz0 (some ⟨b, 0, none⟩) i c (cs.take i) hold (n + m - i) (by omega) (by omega) (by omega) (by omega) (by rw [hzb]; omega) (by rw [hzb, hik]; exact growslice_fits hroom hbig)
    rw [hik] at h
    rw [hkk]
    exact h
  obtain ⟨G, hG⟩ : ∃ G, G = grownCap w (n + m) c 3 := ⟨_, rfl⟩
  obtain ⟨ROW, hROW⟩ : ∃ ROW : Array Value, ROW = (cs.take i).toArray ++ Builtin.zeroCells (Value.int .i64 0).cells (n + m - i) ++ Builtin.zeroCells (Value.int .i64 0).cells (G - (n + m)) := ⟨_, rfl⟩
  rw [← hG] at hrz ⊢
  rw [← hROW] at hrz ⊢
  have hRl : n + m ≤ ROW.size := by
    rw [hROW]
    simp [Builtin.zeroCells, Value.cells]
    omega
  obtain ⟨W1, hW1⟩ : ∃ W1, W1 = w.drew.alloc (.cells ROW 3) := ⟨_, rfl⟩
  rw [← hW1] at hrz
  have hN : ∀ j, j < n + m → (W1.cell? ⟨w.heap.size, j, none⟩).isSome = true := fun j hj => by
    rw [hW1, World.cell?_alloc_at (w := w.drew) ROW _ w.heap.size j rfl, Array.getElem?_eq_getElem (by omega)]; rfl
  have hNf : ∀ j, W1.frozen? ⟨w.heap.size, j, none⟩ = false := fun j => by rw [hW1]; exact World.frozen?_alloc_at (w := w.drew) ROW _ w.heap.size j rfl
  have hOb : ∀ j v, w.cell? ⟨b, j, none⟩ = some v → W1.cell? ⟨b, j, none⟩ = some v := fun j v h => by rw [hW1, World.cell?_alloc_past (w := w.drew) _ b j hbw]; exact h
  have hOv : ∀ j v, w.cell? ⟨vb, j, none⟩ = some v → W1.cell? ⟨vb, j, none⟩ = some v := fun j v h => by rw [hW1, World.cell?_alloc_past (w := w.drew) _ vb j hvw]; exact h
  have hcpA : ∀ (W : World), (∀ x, W.cell? x = W1.cell? x) → (∀ x, W.frozen? x = W1.frozen? x) → ∀ ty dc, (Builtin.copy_ #[41, 41] ty #[.slice (some ⟨w.heap.size, i, none⟩) (n + m - i) dc, .slice (some ⟨vb, voff, none⟩) m vc]).run Tryz.prog W = .ok (goInt vs.length) (W.setCells w.heap.size i vs) := fun W hWc hWf ty dc =>
    run_copy_cells W _ _ ty 3 w.heap.size i (n + m - i) dc ⟨vb, voff, none⟩ m vc vs tS hsz (by rw [hvl]; simp only [Nat.min_def]; split <;> omega)
      (fun j v hj => by rw [Addr.add_lit, hWc]; exact hOv _ v (hvs j v hj))
      (fun j hj => by rw [hWc]; exact hN _ (by omega)) (fun j hj => by rw [hWf]; exact hNf _) h1v
  have hGn : n + m ≤ G := by rw [hG]; exact grownCap_ge w _ _ _
  have hG63 : G ≤ 9223372036854775807 := by
    have := grownCap_le_maxLen w (n + m) c 3 (by unfold maxLen; omega)
    rw [← hG] at this
    unfold maxLen at this
    omega
  have hGi : ¬ (G = i) := by omega
  have hGim : ¬ (G = i + m) := by omega
  have hci : ¬ (c = i) := by omega
  have hbN : b ≠ w.heap.size := by omega
  have hdl : (cs.drop i).length = n - i := by rw [List.length_drop, hcl]
  have hcpB : ∀ (W : World), (∀ x, W.cell? x = (W1.setCells w.heap.size i vs).cell? x) → (∀ x, W.frozen? x = (W1.setCells w.heap.size i vs).frozen? x) → ∀ ty dc sc, (Builtin.copy_ #[41, 41] ty #[.slice (some ⟨w.heap.size, i + m, none⟩) (n + m - (i + m)) dc, .slice (some ⟨b, i, none⟩) (n - i) sc]).run Tryz.prog W = .ok (goInt (cs.drop i).length) (W.setCells w.heap.size (i + m) (cs.drop i)) := fun W hWc hWf ty dc sc =>
    run_copy_cells W _ _ ty 3 w.heap.size (i + m) (n + m - (i + m)) dc ⟨b, i, none⟩ (n - i) sc (cs.drop i) tS hsz (by rw [hdl]; simp only [Nat.min_def]; split <;> omega)
      (fun j v hj => by
        rw [Addr.add_lit, hWc, World.cell?_setCells_out _ _ _ _ _ (fun h _ => absurd h hbN)]
        exact hOb _ v (hcs (i + j) v (by rwa [List.getElem?_drop] at hj)))
      (fun j hj => by rw [hWc]; exact isSome_setCells _ _ _ _ (fun t ht => hN _ (by omega)) _ (hN _ (by omega)))
      (fun j hj => by rw [hWf, World.frozen?_setCells]; exact hNf _) (fun v hv => h1c v (List.mem_of_mem_drop hv))
  subst hW1
  have hE1 : ∀ x, ((w.alloc (.cells ROW 3)).drew).cell? x = (w.drew.alloc (.cells ROW 3)).cell? x := fun x => rfl
  have hE2 : ∀ x, ((w.alloc (.cells ROW 3)).drew).frozen? x = (w.drew.alloc (.cells ROW 3)).frozen? x := fun x => rfl
  have hF1 : ∀ x, (((w.alloc (.cells ROW 3)).drew.setCells w.heap.size i vs).drew).cell? x = ((w.drew.alloc (.cells ROW 3)).setCells w.heap.size i vs).cell? x := fun x => rfl
  have hF2 : ∀ x, (((w.alloc (.cells ROW 3)).drew.setCells w.heap.size i vs).drew).frozen? x = ((w.drew.alloc (.cells ROW 3)).setCells w.heap.size i vs).frozen? x := fun x => rfl
  have hw1 : IntKind.i64.wrap ((i : Int) + (m : Int)) = (i : Int) + (m : Int) := by rw [IntKind.wrap_i64]; omega
  have hb1 : (0 : Int) ≤ (i : Int) + (m : Int) := by omega
  have hin : i ≤ n := by omega
  have htn : ((i : Int) + (m : Int)).toNat = i + m := by omega
  have hb3 : (i : Int) ≤ (n : Int) := by omega
  clear hkk hik hold hROW hG hRl
  go_enter Tryz.func150, Tryz.ntmps150
  go_wp2_with (first
    | (at_builtin; refine Lib.wpList_append_run _ rfl _ _ _ _ rfl _ _ rfl rfl _ _ (hrz _) ?_)
    | (at_builtin; refine wpList_copy_runI _ rfl _ _ 41 41 rfl _ _ rfl rfl (hcpA _ hE1 hE2 _ _) ?_)
    | (at_builtin; refine wpList_copy_runI _ rfl _ _ 41 41 rfl _ _ rfl rfl (hcpB _ (fun _ => rfl) (fun _ => rfl) _ _ _) ?_))
  go_region_law_o (refine step_copy_runI rfl _ _ 41 41 rfl (.slice (some ⟨w.heap.size, i + m, none⟩) (n + m - (i + m)) (G - (i + m))) (.slice (some ⟨b, i, none⟩) (n - i) (c - i)) (by simp [Act.eval, Act.put]) (by simp [Act.eval, Act.put]) (hcpB _ hF1 hF2 3 (G - (i + m)) (c - i)) ?_)
  go_wp2
  go_ret
  exact ⟨rfl, rfl⟩
theorem ownI {C : Cx} {s : St} {γ : Nat → Option Nat} {κ : Nat → Nat} {a : Act} {W : World} (hC : Conc C s γ κ a W) {id : Nat} {l : List Int} (hb : s.hp[id]? = some ⟨3, 1, l.map (cK .i64)⟩) (h0 : l ≠ []) :
    ∃ g sp, γ id = some g ∧ W.heap[g]? = some (.cells (l.map (Value.int .i64) ++ sp).toArray 3 (0, 0)) ∧ l.length + sp.length = κ id := by
  have hB := hC.blk id _ hb
  rcases hB.mem with ⟨h1, h2, h3⟩ | ⟨g, ys, sp, h1, h2, h3, h4⟩
  · exact absurd (List.map_eq_nil_iff.1 h2) h0
  · have e := qgc h4
    subst e
    exact ⟨g, sp, h1, h2, by have h3' : _ = κ id * 1 := h3; simpa using h3'⟩
theorem coreI {C : Cx} {s : St} {γ : Nat → Option Nat} {κ : Nat → Nat} {a : Act} {W : World} (hC : Conc C s γ κ a W) {id : Nat} {l v : List Int} (hb : s.hp[id]? = some ⟨3, 1, l.map (cK .i64)⟩) {i : Nat} (hi : i < l.length) (hm : 0 < v.length) (hl : l.length ≤ 1000000000) (hv : v.length ≤ 1000000000)
    {vb voff vc : Nat} (hvb : γ id ≠ some vb) (hvs : ∀ j y, (v.map (Value.int .i64))[j]? = some y → W.cell? ⟨vb, voff + j, none⟩ = some y) :
    Calls Tryz.prog 150 #[.slice ((γ id).map fun g => ⟨g, 0, none⟩) l.length (κ id), .int .i64 i, .slice (some ⟨vb, voff, none⟩) v.length vc] W fun e W' => ∃ x γ' κ', e = .returned x ∧
      Conc C ⟨s.env, s.hp.set id ⟨3, 1, (l.take i ++ v ++ l.drop i).map (cK .i64)⟩⟩ γ' κ' a W' ∧ RepA (St.mm ⟨s.env, s.hp.set id ⟨3, 1, (l.take i ++ v ++ l.drop i).map (cK .i64)⟩⟩ C γ' κ' W') (.os id (l.length + v.length)) x := by
  have hid : id < s.hp.length := (List.getElem?_eq_some_iff.1 hb).1
  obtain ⟨g, sp, hg, hmem, hcap⟩ := ownI hC hb (fun e => by rw [e] at hi; simp at hi)
  have hmax := (hC.blk id _ hb).capm
  have hmax' : κ id ≤ maxLen := hmax
  have hc63 : κ id ≤ 9223372036854775807 := by unfold maxLen at hmax'; omega
  rw [hg]
  have hcell : ∀ j, W.cell? ⟨g, j, none⟩ = (l.map (Value.int .i64) ++ sp)[j]? := fun j => by rw [q7 hmem]; simp
  have hcs : ∀ j y, (l.map (Value.int .i64))[j]? = some y → W.cell? ⟨g, j, none⟩ = some y := fun j y hy => by
    rw [hcell, List.getElem?_append_left (List.getElem?_eq_some_iff.1 hy).1]; exact hy
  have h1c : ∀ u : List Int, ∀ y ∈ u.map (Value.int .i64), y.oneCell' = true := by
    intro u y hy
    obtain ⟨z, _, rfl⟩ := List.mem_map.1 hy
    rfl
  have hnew : ((l.take i ++ v ++ l.drop i).map (cK .i64)).length = l.length + v.length := by
    simp only [List.length_map, List.length_append, List.length_take, List.length_drop]; omega
  have hrep : All2 (RepA (s.mm C γ κ W)) ((l.take i ++ v ++ l.drop i).map (cK .i64)).flatten ((l.take i ++ v ++ l.drop i).map (Value.int .i64)) := qfn _ _
  have hos : ∀ {γ' : Nat → Option Nat} {κ' : Nat → Nat} {W' : World} {g' k' : Nat}, γ' id = some g' → κ' id = k' → RepA (St.mm ⟨s.env, s.hp.set id ⟨3, 1, (l.take i ++ v ++ l.drop i).map (cK .i64)⟩⟩ C γ' κ' W') (.os id (l.length + v.length)) (.slice (some ⟨g', 0, none⟩) (l.length + v.length) k') := by
    intro γ' κ' W' g' k' h1 h2
    refine .os id _ ⟨3, 1, (l.take i ++ v ++ l.drop i).map (cK .i64)⟩ _ _ _ (List.getElem?_set_self hid) (Nat.le_of_eq hnew.symm) fun _ => ⟨?_, rfl, h2.symm⟩
    show _ = (γ' id).map _
    rw [h1]; rfl
  by_cases hroom : l.length + v.length ≤ κ id
  · refine (qgd g l.length (κ id) i vb voff v.length vc _ _ W hi hm hroom hc63 (fun e => hvb (by rw [hg, e])) (by simp) (by simp) hcs (fun j hj => by rw [hcell, List.getElem?_eq_getElem (by simp only [List.length_append, List.length_map]; omega)]; rfl) (fun j => qan hmem j) hvs (h1c l) (h1c v)).mono ?_
    rintro e W' ⟨rfl, rfl⟩
    have h1 := ql ((l.map (Value.int .i64)).drop i) (i + v.length) W.drew _ hmem (by simp only [List.length_append, List.length_map, List.length_drop]; omega)
    have h2 := ql (v.map (Value.int .i64)) i _ _ h1 (by simp only [List.length_append, List.length_map, List.length_drop, List.length_take]; omega)
    rw [show (v.map (Value.int .i64)).length = v.length by simp] at h2
    rw [splice2 (l.map (Value.int .i64)) sp (v.map (Value.int .i64)) i v.length (by simp; omega) (by simp) (by omega)] at h2
    have e2 : (l.map (Value.int .i64)).take i ++ v.map (Value.int .i64) ++ (l.map (Value.int .i64)).drop i = (l.take i ++ v ++ l.drop i).map (Value.int .i64) := by simp
    rw [e2] at h2
    have hs1 := qj g ((l.map (Value.int .i64)).drop i) (i + v.length) W.drew
    have hs2 := qj g (v.map (Value.int .i64)) i (W.drew.setCells g (i + v.length) ((l.map (Value.int .i64)).drop i))
    obtain ⟨γ', κ', k1, k2, k3⟩ := hC.swap (b := ⟨3, 1, l.map (cK .i64)⟩) hb (g' := g) (k' := κ id) (rows' := (l.take i ++ v ++ l.drop i).map (cK .i64)) h2
      (fun x hx _ => (qk g x hx _ _ _).trans (qk g x hx _ _ _)) (by rw [hs2.2.2.2, hs1.2.2.2]; exact Nat.le_refl _) (hs2.1.trans hs1.1) (hs2.2.1.trans hs1.2.1) (hs2.2.2.1.trans hs1.2.2.1) (.inl hg)
      (fun _ => ⟨hg, rfl⟩) (by rw [hnew]; simp) (qcp _) (qbt _) (by rw [hnew]; exact hroom) hmax' (by simp only [List.length_append, List.length_map, List.length_drop, List.length_take]; show _ = κ id * 1; omega) hrep
    exact ⟨_, γ', κ', rfl, k1, hos k2 k3⟩
  · refine (qhs g l.length (κ id) i vb voff v.length vc _ _ W hi hm (by omega) (by omega) (by omega) (by omega) (by simp) (by simp) hcs hvs (h1c l) (h1c v)).mono ?_
    rintro e W' ⟨rfl, rfl⟩
    have hge := grownCap_ge W (l.length + v.length) (κ id) 3
    have hcm := grownCap_le_maxLen W (l.length + v.length) (κ id) 3 (by unfold maxLen; omega)
    generalize grownCap W (l.length + v.length) (κ id) 3 = G at hge hcm ⊢
    have h0 : (((W.alloc (.cells (((l.map (Value.int .i64)).take i).toArray ++ Builtin.zeroCells (Value.int .i64 0).cells (l.length + v.length - i) ++ Builtin.zeroCells (Value.int .i64 0).cells (G - (l.length + v.length))) 3)).drew).heap[W.heap.size]?) = some (.cells (((l.map (Value.int .i64)).take i ++ (Builtin.zeroCells (Value.int .i64 0).cells (l.length + v.length - i) ++ Builtin.zeroCells (Value.int .i64 0).cells (G - (l.length + v.length))).toList).toArray) 3 (0, 0)) := by
      have := q4 W (.cells (((l.map (Value.int .i64)).take i).toArray ++ Builtin.zeroCells (Value.int .i64 0).cells (l.length + v.length - i) ++ Builtin.zeroCells (Value.int .i64 0).cells (G - (l.length + v.length))) 3 (0, 0))
      refine Eq.trans this ?_
      congr 2
      apply Array.toList_inj.1; simp
    have hzl : (Builtin.zeroCells (Value.int .i64 0).cells (l.length + v.length - i) ++ Builtin.zeroCells (Value.int .i64 0).cells (G - (l.length + v.length))).toList.length = G - i := by
      simp [size_zeroCells, Value.cells]; omega
    generalize (Builtin.zeroCells (Value.int .i64 0).cells (l.length + v.length - i) ++ Builtin.zeroCells (Value.int .i64 0).cells (G - (l.length + v.length))).toList = zs at h0 hzl
    have hA1 : ∀ x, x < W.heap.size → ((W.alloc (.cells (((l.map (Value.int .i64)).take i).toArray ++ Builtin.zeroCells (Value.int .i64 0).cells (l.length + v.length - i) ++ Builtin.zeroCells (Value.int .i64 0).cells (G - (l.length + v.length))) 3)).drew).heap[x]? = W.heap[x]? := fun x hx => Below.heap_alloc W _ x hx
    have hA2 : ((W.alloc (.cells (((l.map (Value.int .i64)).take i).toArray ++ Builtin.zeroCells (Value.int .i64 0).cells (l.length + v.length - i) ++ Builtin.zeroCells (Value.int .i64 0).cells (G - (l.length + v.length))) 3)).drew).heap.size = W.heap.size + 1 := by
      show (W.heap.push _).size = _
      simp
    have hA3 : ((W.alloc (.cells (((l.map (Value.int .i64)).take i).toArray ++ Builtin.zeroCells (Value.int .i64 0).cells (l.length + v.length - i) ++ Builtin.zeroCells (Value.int .i64 0).cells (G - (l.length + v.length))) 3)).drew).os = W.os ∧ ((W.alloc (.cells (((l.map (Value.int .i64)).take i).toArray ++ Builtin.zeroCells (Value.int .i64 0).cells (l.length + v.length - i) ++ Builtin.zeroCells (Value.int .i64 0).cells (G - (l.length + v.length))) 3)).drew).tape = W.tape ∧ ((W.alloc (.cells (((l.map (Value.int .i64)).take i).toArray ++ Builtin.zeroCells (Value.int .i64 0).cells (l.length + v.length - i) ++ Builtin.zeroCells (Value.int .i64 0).cells (G - (l.length + v.length))) 3)).drew).output = W.output := ⟨rfl, rfl, rfl⟩
    have hzz : zs.length = G - i := hzl
    generalize (W.alloc (.cells (((l.map (Value.int .i64)).take i).toArray ++ Builtin.zeroCells (Value.int .i64 0).cells (l.length + v.length - i) ++ Builtin.zeroCells (Value.int .i64 0).cells (G - (l.length + v.length))) 3)).drew = WA at h0 hA1 hA2 hA3 ⊢
    have h1 := ql (v.map (Value.int .i64)) i WA _ h0 (by simp only [List.length_append, List.length_map, List.length_take]; omega)
    have hs1 := qj W.heap.size (v.map (Value.int .i64)) i WA
    have hf1 := fun x hx => qk W.heap.size x hx (v.map (Value.int .i64)) i WA
    have hB : (WA.setCells W.heap.size i (v.map (Value.int .i64))).drew.heap = (WA.setCells W.heap.size i (v.map (Value.int .i64))).heap ∧ (WA.setCells W.heap.size i (v.map (Value.int .i64))).drew.os = (WA.setCells W.heap.size i (v.map (Value.int .i64))).os ∧ (WA.setCells W.heap.size i (v.map (Value.int .i64))).drew.tape = (WA.setCells W.heap.size i (v.map (Value.int .i64))).tape ∧ (WA.setCells W.heap.size i (v.map (Value.int .i64))).drew.output = (WA.setCells W.heap.size i (v.map (Value.int .i64))).output := ⟨rfl, rfl, rfl, rfl⟩
    generalize (WA.setCells W.heap.size i (v.map (Value.int .i64))).drew = WB at hB ⊢
    generalize WA.setCells W.heap.size i (v.map (Value.int .i64)) = WB' at hB h1 hs1 hf1
    rw [← hB.1] at h1
    have h2 := ql ((l.map (Value.int .i64)).drop i) (i + v.length) WB _ h1 (by simp only [List.length_append, List.length_map, List.length_take, List.length_drop]; omega)
    rw [show (v.map (Value.int .i64)).length = v.length by simp] at h2
    rw [splice3 (l.map (Value.int .i64)) zs (v.map (Value.int .i64)) i v.length (by simp; omega) (by simp) (by simp; omega)] at h2
    have e2 : (l.map (Value.int .i64)).take i ++ v.map (Value.int .i64) ++ (l.map (Value.int .i64)).drop i = (l.take i ++ v ++ l.drop i).map (Value.int .i64) := by simp
    rw [e2] at h2
    have hs2 := qj W.heap.size ((l.map (Value.int .i64)).drop i) (i + v.length) WB
    have hf2 := fun x hx => qk W.heap.size x hx ((l.map (Value.int .i64)).drop i) (i + v.length) WB
    obtain ⟨γ', κ', k1, k2, k3⟩ := hC.swap (b := ⟨3, 1, l.map (cK .i64)⟩) hb (g' := W.heap.size) (k' := G) (rows' := (l.take i ++ v ++ l.drop i).map (cK .i64)) h2
      (fun x hx hlt => (hf2 x hx).trans ((by rw [hB.1]; exact hf1 x hx : WB.heap[x]? = WA.heap[x]?).trans (hA1 x hlt))) (by rw [hs2.2.2.2, hB.1, hs1.2.2.2, hA2]; omega) (hs2.1.trans (hB.2.1.trans (hs1.1.trans hA3.1))) (hs2.2.1.trans (hB.2.2.1.trans (hs1.2.1.trans hA3.2.1))) (hs2.2.2.1.trans (hB.2.2.2.trans (hs1.2.2.1.trans hA3.2.2))) (.inr (Nat.le_refl _))
      (fun e => by have e' : (l.map (cK .i64)).length = _ := e; rw [hnew, List.length_map] at e'; omega) (by rw [hnew]; simp) (qcp _) (qbt _) (by rw [hnew]; exact hge) hcm (by simp only [List.length_append, List.length_map, List.length_drop, List.length_take, hzz]; show _ = G * 1; omega) hrep
    exact ⟨_, γ', κ', rfl, k1, hos k2 k3⟩
open Go.RowKit
set_option maxRecDepth 100000
set_option maxHeartbeats 4000000
def insAt (l : List Int) (i x : Int) : List Int := l.take i.toNat ++ x :: l.drop i.toNat
theorem qi4 (l : List Int) (i x : Int) (h0 : 0 ≤ i) (h1 : i ≤ l.length) : (insAt l i x).length = l.length + 1 := by
  unfold insAt
  simp only [List.length_append, List.length_take, List.length_cons, List.length_drop]; omega
theorem qi5 (l : List Int) (x : Int) : insAt l l.length x = l ++ [x] := by unfold insAt; simp
theorem qb1 {M : Mm} {n : Int} {v : Value} (h : RepA M (iav n) v) : v = .int .i64 n := by
  cases h with | imm _ _ h => exact h.int_inv
theorem qn4 (l : List Int) (i x : Int) (h0 : 0 ≤ i) (h1 : i < l.length) (hl : l.length ≤ 1000000000) : GenC Tryz.prog 150 [⟨3, 1, l.map cI⟩, ⟨3, 1, [cI x]⟩] [.os 0 l.length, iav i, .os 1 1] (.os 0 (insAt l i x).length) [⟨3, 1, (insAt l i x).map cI⟩, ⟨3, 1, [cI x]⟩] := by
  refine ⟨(qmc l x hl).1, fun W X γ κ xs hC hargs => ?_⟩
  obtain ⟨k, rfl⟩ : ∃ k : Nat, i = k := ⟨i.toNat, by omega⟩
  have hk : k < l.length := by omega
  have en : insAt l k x = l.take k ++ [x] ++ l.drop k := by unfold insAt; simp
  cases hargs with
  | cons a0 t =>
    cases t with
    | cons a1 t =>
      cases t with
      | cons a2 t =>
        cases t
        have e0 := a0.os_val (b := ⟨3, 1, l.map cI⟩) rfl (by simp)
        have e2 := a2.os_val (b := ⟨3, 1, [cI x]⟩) rfl rfl
        have e1 := qb1 a1
        subst e0 e1 e2
        obtain ⟨g1, sp1, hg1, hmem1, hcap1⟩ := ownI hC (id := 1) (l := [x]) rfl (by simp)
        obtain ⟨g0, sp0, hg0, hmem0, hcap0⟩ := ownI hC (id := 0) (l := l) rfl (fun e => by rw [e] at hk; simp at hk)
        have h := coreI hC (id := 0) (l := l) (v := [x]) (i := k) rfl hk (by simp) hl (by simp) (vb := g1) (voff := 0) (vc := κ 1) (fun e => by
            have := hC.inj 0 1 g1 (by simp) (by simp) e hg1
            cases this) (fun j y hy => by
            rw [q7 hmem1]
            simp only [List.getElem?_toArray, Nat.zero_add]
            rw [List.getElem?_append_left (List.getElem?_eq_some_iff.1 hy).1]; exact hy)
        have hA : (St.mm ⟨[], [⟨3, 1, l.map cI⟩, ⟨3, 1, [cI x]⟩]⟩ (cxG Tryz.prog X [⟨3, 1, l.map cI⟩, ⟨3, 1, [cI x]⟩] γ κ W 0) γ κ W).γ 1 = some g1 := hg1
        rw [hA]
        refine h.mono ?_
        rintro e W' ⟨y, γ', κ', rfl, hC', hr⟩
        refine ⟨y, γ', κ', rfl, ?_, ?_⟩
        · rw [en]; exact hC'
        · rw [en]
          rw [show (l.take k ++ [x] ++ l.drop k).length = l.length + [x].length by simp only [List.length_append, List.length_take, List.length_drop, List.length_singleton]; omega]
          exact hr
def insFM (f : List Node) (node parent idx : Int) : List Node :=
  updAt (updAt f (parent - 1) { atI f (parent - 1) with kids := insAt (atI f (parent - 1)).kids idx node }) (node - 1)
    { atI (updAt f (parent - 1) { atI f (parent - 1) with kids := insAt (atI f (parent - 1)).kids idx node }) (node - 1) with parent := parent }
theorem qa7 (f : List Node) (node parent idx : Int) : (insFM f node parent idx).length = f.length := by unfold insFM updAt; simp
theorem qi6 (f : List Node) (node parent : Int) : insFM f node parent (atI f (parent - 1)).kids.length = insF f node parent := by unfold insFM insF; rw [qi5]
theorem qi7 (f : List Node) (c : Change) (hf : Fit f) (h1 : 1 ≤ c.node) (h2 : c.node ≤ f.length) (h3 : 1 ≤ c.parent) (h4 : c.parent ≤ f.length) (hi0 : 0 ≤ c.index) (hi1 : c.index < (atI f (c.parent - 1)).kids.length) (hp0 : (atI f (c.node - 1)).parent = 0) : GenC Tryz.prog 113 [⟨24, 1, [[.os 1 f.length]]⟩, ⟨44, 16, rowsK f (c.parent - 1) (.os 2 (atI f (c.parent - 1)).kids.length)⟩, ⟨3, 1, (atI f (c.parent - 1)).kids.map cI⟩] [.ptr 0 1 0 0, c.av] (bav true) [⟨24, 1, [[.os 1 f.length]]⟩, ⟨44, 16, rowsK (insFM f c.node c.parent c.index) (c.parent - 1) (.os 2 (insAt (atI f (c.parent - 1)).kids c.index c.node).length)⟩, ⟨3, 1, (insAt (atI f (c.parent - 1)).kids c.index c.node).map cI⟩] := by
  have hl := hf.len
  have hR := qag f (c.parent - 1) (.os 2 (atI f (c.parent - 1)).kids.length)
  have hsc : (rowsK f (c.parent - 1) (.os 2 (atI f (c.parent - 1)).kids.length)).all (fun r => r.all (AV.sc1 3)) = true := q6 f _ _ 3 rfl
  have eN : ∀ n, renB (rho [0, 1, 2] n) ⟨44, 16, rowsK f (c.parent - 1) (.os 2 (atI f (c.parent - 1)).kids.length)⟩ = ⟨44, 16, rowsK f (c.parent - 1) (.os 2 (atI f (c.parent - 1)).kids.length)⟩ := fun n => qf (rho3 n) hsc
  have eK : ∀ n, renB (rho [0, 1, 2] n) ⟨3, 1, (atI f (c.parent - 1)).kids.map cI⟩ = ⟨3, 1, (atI f (c.parent - 1)).kids.map cI⟩ := fun n => qn _ _ _ _
  obtain ⟨nd, hnd⟩ : ∃ nd, nd = atI f (c.node - 1) := ⟨_, rfl⟩
  rw [← hnd] at hp0
  obtain ⟨kk, hkk, hnode⟩ : ∃ kk : AV, kk = (if c.node - 1 = c.parent - 1 then (.os 2 (atI f (c.parent - 1)).kids.length) else .imm (.sl (nd.kids.map i64))) ∧ atI (rowsK f (c.parent - 1) (.os 2 (atI f (c.parent - 1)).kids.length)) (c.node - 1) = nodeRow nd kk := by
    refine ⟨_, rfl, ?_⟩
    rw [qz f _ _ (by omega) (by omega) _ (by omega) (by omega), hnd]
    split
    · rename_i e; rw [e]
    · rfl
  have hpar : atI (rowsK f (c.parent - 1) (.os 2 (atI f (c.parent - 1)).kids.length)) (c.parent - 1) = nodeRow (atI f (c.parent - 1)) (.os 2 (atI f (c.parent - 1)).kids.length) := by
    rw [qz f _ _ (by omega) (by omega) _ (by omega) (by omega), if_pos rfl]
  obtain ⟨R1, hR1⟩ : ∃ R1, R1 = (rowsK f (c.parent - 1) (.os 2 (atI f (c.parent - 1)).kids.length)).set (c.parent - 1).toNat (nodeRow (atI f (c.parent - 1)) (.os 2 (insAt (atI f (c.parent - 1)).kids c.index c.node).length)) := ⟨_, rfl⟩
  have hR1l : R1.length = f.length := by rw [hR1, List.length_set, hR]
  obtain ⟨kk2, hkk2, hnode2⟩ : ∃ kk2 : AV, kk2 = (if c.node - 1 = c.parent - 1 then (.os 2 (insAt (atI f (c.parent - 1)).kids c.index c.node).length) else .imm (.sl (nd.kids.map i64))) ∧ atI R1 (c.node - 1) = nodeRow nd kk2 := by
    refine ⟨_, rfl, ?_⟩
    rw [hR1, qt _ _ _ _ (by omega) (by omega) (by omega), hnd]
    split
    · rename_i e; rw [e]
    · rename_i e
      rw [qz f _ _ (by omega) (by omega) _ (by omega) (by omega), if_neg e]; rfl
  have hfin : R1.set (c.node - 1).toNat (nodeRow { nd with parent := c.parent } kk2) = rowsK (insFM f c.node c.parent c.index) (c.parent - 1) (.os 2 (insAt (atI f (c.parent - 1)).kids c.index c.node).length) := by
    have hil := qa7 f c.node c.parent c.index
    have hul : ∀ n, (updAt f (c.parent - 1) n).length = f.length := fun n => by unfold updAt; simp
    refine qeu (by rw [List.length_set, qag, hil, hR1l]) fun i g0 g1 => ?_
    rw [List.length_set] at g1
    rw [qt _ _ _ _ (by omega) (by omega) g0, qz _ _ _ (by omega) (by omega) _ g0 (by omega)]
    have hat : ∀ j : Int, 0 ≤ j → j < f.length → atI (insFM f c.node c.parent c.index) j = if j = c.node - 1 then { (if c.node - 1 = c.parent - 1 then { atI f (c.parent - 1) with kids := insAt (atI f (c.parent - 1)).kids c.index c.node } else atI f (c.node - 1)) with parent := c.parent } else if j = c.parent - 1 then { atI f (c.parent - 1) with kids := insAt (atI f (c.parent - 1)).kids c.index c.node } else atI f j := by
      intro j j0 j1
      unfold insFM
      rw [show updAt (updAt f (c.parent - 1) { atI f (c.parent - 1) with kids := insAt (atI f (c.parent - 1)).kids c.index c.node }) (c.node - 1) { atI (updAt f (c.parent - 1) { atI f (c.parent - 1) with kids := insAt (atI f (c.parent - 1)).kids c.index c.node }) (c.node - 1) with parent := c.parent } = (updAt f (c.parent - 1) { atI f (c.parent - 1) with kids := insAt (atI f (c.parent - 1)).kids c.index c.node }).set (c.node - 1).toNat { atI (updAt f (c.parent - 1) { atI f (c.parent - 1) with kids := insAt (atI f (c.parent - 1)).kids c.index c.node }) (c.node - 1) with parent := c.parent } from rfl]
      rw [qt _ _ _ _ (by omega) (by rw [hul]; omega) j0]
      unfold updAt
      rw [qt _ _ _ _ (by omega) (by omega) (by omega), qt _ _ _ _ (by omega) (by omega) j0]
    by_cases e1 : i = c.node - 1
    · rw [if_pos e1]
      by_cases e2 : c.node - 1 = c.parent - 1
      · rw [if_pos (by omega), hat _ (by omega) (by omega), if_pos (by omega), if_pos e2, hkk2, if_pos e2, hnd, e2]; rfl
      · rw [if_neg (by omega), hat _ g0 (by omega), if_pos e1, if_neg e2, hkk2, if_neg e2, hnd]; rfl
    · rw [if_neg e1, hR1, qt _ _ _ _ (by omega) (by omega) g0]
      by_cases e2 : i = c.parent - 1
      · rw [if_pos e2, if_pos e2, hat _ (by omega) (by omega), if_neg (by omega), if_pos rfl]; rfl
      · rw [if_neg e2, if_neg e2, qz f _ _ (by omega) (by omega) _ g0 (by omega), if_neg e2, hat _ g0 (by omega), if_neg e1, if_neg e2]
  have hscF : (rowsK (insFM f c.node c.parent c.index) (c.parent - 1) (.os 2 (insAt (atI f (c.parent - 1)).kids c.index c.node).length)).all (fun r => r.all (AV.sc1 3)) = true := q6 _ _ _ 3 rfl
  have gnode := qak (by omega) (by omega) hnode
  have gpar := qak (by omega) (by omega) hpar
  have gnode2 := qak (by omega) (by omega) hnode2
  refine yah tabs Tryz.func113 55 [.tmp 4] rfl rfl rfl rfl rfl ?_; intro w0 X γ κ
  refine AW.reserve 3 1 rfl ?_
  (repeat' (first | ((with_reducible show AL _ _ _ _ _); first | (refine yf tabs rfl ?_; try dsimp only [len, List.nil_append, List.cons_append]) | refine yz [0, 1, 2] 5 rfl rfl rfl rfl rfl (caps := []) rfl (qga f (rowsK f (c.parent - 1) (.os 2 (atI f (c.parent - 1)).kids.length)) (atI f (c.parent - 1)).kids c hR hl hsc h1 h2 h3 h4) rfl (by simp only [List.map_cons, List.map_nil, eN, eK]; rfl) rfl rfl (by simp only [qax]; exact ⟨rfl, hsc, (by simp only [List.all_cons, List.all_nil, List.all_map, Function.comp_def, cI, cB, iav, bav, AV.sc1, AV.sc0, Bool.and_true, Bool.and_self, qh]; try rfl)⟩) rfl (by simp only [qax]; exact ⟨rfl, hsc, (by simp only [List.all_cons, List.all_nil, List.all_map, Function.comp_def, cI, cB, iav, bav, AV.sc1, AV.sc0, Bool.and_true, Bool.and_self, qh]; try rfl)⟩) rfl (hpA := [⟨24, 1, [[.os 1 f.length]]⟩, ⟨44, 16, rowsK f (c.parent - 1) (.os 2 (atI f (c.parent - 1)).kids.length)⟩, ⟨3, 1, (atI f (c.parent - 1)).kids.map cI⟩]) (by simp only [List.map_cons, List.map_nil, eN, eK]; rfl) (r' := .tup [.ptr 1 f.length (c.node - 1).toNat 0, .ptr 1 f.length (c.parent - 1).toNat 0]) rfl rfl ?_ | refine yae rfl (ybl (b := ⟨44, 16, R1⟩) rfl rfl rfl (by rw [hR1]; rfl) hR1l.symm) rfl ?_ | refine yae rfl (ya1 (b := ⟨44, 16, R1⟩) tabs rfl rfl rfl rfl rfl rfl rfl (by rw [hR1]; rfl) hR1l.symm) rfl ?_ | refine yae rfl (ya2 (i := ti3) (v := iav c.parent) (b := ⟨44, 16, R1⟩) (r := nodeRow nd kk2) tabs rfl rfl rfl rfl rfl (by rw [← qm, hR1]; rfl) hR1l.symm rfl rfl (Nat.le_of_ble_eq_true rfl) gnode2) rfl ?_ | refine yn ?_ | (refine yq rfl rfl rfl (fun hc => ?_) (fun hc => ?_) <;> (fail_if_success (exact absurd hc (by decide))) <;> (try simp only [hsx] at hc) <;> (try first | omega | contradiction | (simp [qa] at hc; done)))) | ((with_reducible show DQ _ _ _ _ _ _); first | refine DQ.stepc (yca (b := ⟨44, 16, rowsK f (c.parent - 1) (.os 2 (atI f (c.parent - 1)).kids.length)⟩) tabs rfl rfl rfl u153 rfl rfl hR.symm rfl) rfl rfl rfl rfl rfl ?_ | refine DQ.stepc (ybt (b := ⟨44, 16, rowsK f (c.parent - 1) (.os 2 (atI f (c.parent - 1)).kids.length)⟩) rfl rfl rfl rfl rfl hR.symm) rfl rfl rfl rfl rfl ?_ | refine DQ.stepc (yay (b := ⟨44, 16, rowsK f (c.parent - 1) (.os 2 (atI f (c.parent - 1)).kids.length)⟩) tabs rfl rfl rfl rfl rfl rfl rfl rfl rfl hR.symm) rfl rfl rfl rfl rfl ?_ | refine DQ.stepc (ybd (i := ti3) (r := nodeRow nd kk) (b := ⟨44, 16, rowsK f (c.parent - 1) (.os 2 (atI f (c.parent - 1)).kids.length)⟩) (row := (c.node - 1).toNat) tabs rfl rfl rfl rfl rfl rfl hR.symm gnode rfl) rfl rfl rfl rfl rfl ?_ | refine DQ.stepc (ybd (i := ti41) (r := nodeRow (atI f (c.parent - 1)) (.os 2 (atI f (c.parent - 1)).kids.length)) (b := ⟨44, 16, rowsK f (c.parent - 1) (.os 2 (atI f (c.parent - 1)).kids.length)⟩) (row := (c.parent - 1).toNat) tabs rfl rfl rfl rfl rfl rfl hR.symm gpar rfl) rfl rfl rfl rfl rfl ?_ | refine DQ.stepc (ybx (b := ⟨3, 1, (atI f (c.parent - 1)).kids.map cI⟩) tabs rfl rfl rfl rfl rfl rfl rfl (by simp)) rfl rfl rfl rfl rfl ?_ | refine DQ.stepc (ya9 3 tabs rfl rfl rfl rfl rfl rfl rfl rfl rfl rfl rfl rfl) rfl rfl rfl rfl rfl ?_ | refine DQ.stepc (yb8 2 3 (r' := .os 2 (insAt (atI f (c.parent - 1)).kids c.index c.node).length) (bA := ⟨3, 1, (insAt (atI f (c.parent - 1)).kids c.index c.node).map cI⟩) rfl rfl rfl rfl rfl (qn4 (atI f (c.parent - 1)).kids c.index c.node hi0 hi1 (hf.atI (c.parent - 1) (by omega) (by omega)).kids) (fun _ => rfl) rfl rfl rfl (fun _ => (qn _ _ _ _).symm) (fun _ => rfl) rfl (by simp only [List.all_cons, List.all_nil, List.all_map, Function.comp_def, cI, cB, iav, bav, AV.sc1, AV.sc0, Bool.and_true, Bool.and_self, qh]; try rfl) rfl (by simp only [List.all_cons, List.all_nil, List.all_map, Function.comp_def, cI, cB, iav, bav, AV.sc1, AV.sc0, Bool.and_true, Bool.and_self, qh]; try rfl) (fun _ => qn _ _ _ _) (fun _ => rfl)) rfl rfl rfl rfl rfl ?_ | refine DQ.stepc (LS.store (i := ti41) (v := (.os 2 (insAt (atI f (c.parent - 1)).kids c.index c.node).length)) (ty := 44) (sz := 16) (rows := rowsK f (c.parent - 1) (.os 2 (atI f (c.parent - 1)).kids.length)) (r := nodeRow (atI f (c.parent - 1)) (.os 2 (atI f (c.parent - 1)).kids.length)) tabs rfl rfl rfl rfl rfl rfl rfl hR.symm rfl rfl (by decide) gpar) rfl rfl rfl rfl rfl ?_ | refine DQ.stepc (LS.val tabs rfl rfl rfl) rfl rfl rfl rfl rfl ?_ | refine DQ.stepc (yu rfl rfl) rfl rfl rfl rfl rfl ?_ | refine DQ.nilM (by kernel_rfl) ?_ | (refine DQ.gsplitE rfl rfl rfl (fun hc => ?_) (fun hc => ?_) <;> (fail_if_success (exact absurd hc (by decide))) <;> (try simp only [hsx] at hc) <;> (try first | omega | contradiction | (simp [qa] at hc; done)))) | refine ym ?_ | refine ya ?_ | refine yb ?_ | refine yg ?_ | refine yi rfl ?_ | refine yh rfl ?_ | (refine yk rfl (fun hc => ?_) (fun hc => ?_) <;> (try simp only [hsx] at hc) <;> (try first | omega | contradiction | (simp [qa] at hc; done))) | refine yo ?_ | refine yc ?_ | refine yr mixed (by kernel_rfl) ?_))
  all_goals first
    | (exfalso; omega)
    | (refine yal 3 rfl rfl (by rw [← hfin]; rfl) rfl ?_ (by simp [cxG])
       simp only [qax]
       exact ⟨rfl, hscF, (by simp only [List.all_cons, List.all_nil, List.all_map, Function.comp_def, cI, cB, iav, bav, AV.sc1, AV.sc0, Bool.and_true, Bool.and_self, qh]; try rfl)⟩)
def cU (x : Int) : List AV := [.imm (.int .u16 x)]
theorem qi8 (l : List Int) (hl : l.length ≤ 1000000000) (hne : l ≠ []) : GenC Tryz.prog 106 [⟨55, 1, []⟩] [.imm (.sl (l.map u16))] (.os 0 l.length) [⟨55, 1, l.map cU⟩] := by
  have e : (l.map u16).map (·.map AV.imm) = l.map cU := by simp [cU, u16, cU]
  have e1 : ((l.map u16).map (·.map AV.imm)).length = l.length := by simp
  refine yah tabs Tryz.func106 8 [.tmp 2] rfl rfl rfl rfl rfl ?_; intro w0 X γ κ
  (repeat' (first | ((with_reducible show AL _ _ _ _ _); first | refine yae rfl (ybp tabs rfl rfl rfl rfl rfl rfl) rfl ?_ | (refine yf tabs rfl ?_; try dsimp only [len, List.nil_append, List.cons_append]) | refine ybm tabs rfl rfl rfl rfl rfl rfl rfl (fun b hb => ?_) | refine yae rfl (yas 0 (ie := ti55) tabs rfl rfl rfl rfl rfl (by decide) rfl rfl rfl (rows2 := (l.map u16).map (·.map AV.imm)) (by simpa using hne) (SrcA.imm (rows := l.map u16) tabs rfl rfl rfl (by simp [u16, ti55])) (by simp [ti55]; omega) (by simp; omega)) rfl ?_ | refine yn ?_) | refine ym ?_ | refine ya ?_ | refine yb ?_ | refine yg ?_ | refine yi rfl ?_ | refine yh rfl ?_ | (refine yk rfl (fun hc => ?_) (fun hc => ?_) <;> (try simp only [hsx] at hc) <;> (try first | omega | contradiction | (simp [qa] at hc; done))) | refine yo ?_ | refine yc ?_))
  · have e : l = [] := by simpa using hb hc
    exact absurd e hne
  · refine yal 1 rfl ?_ ?_ rfl ?_ (by simp [cxG])
    · show AV.os 0 ((l.map u16).map (·.map AV.imm)).length = _
      rw [e1]
    · show _ = [(⟨55, 1, (l.map u16).map (·.map AV.imm)⟩ : Blk)]
      rw [e]
    · exact (by simp only [List.all_cons, List.all_nil, List.all_map, Function.comp_def, cI, cB, cU, iav, bav, AV.sc1, AV.sc0, Bool.and_true, Bool.and_self, qh]; try rfl)
def nodeRowD (n : Node) (k : AV) : List AV := [kav n.kind, sav n.name.sp, sav n.name.pf, sav n.name.lc, sav n.pub, sav n.sys, k, .imm (.sl (n.attrs.map Attr.iv)), iav n.parent, .imm (.sl (n.kids.map i64)), iav n.doc, iav n.host, iav n.shadow, kav n.mode, bav n.manual, bav n.html]
theorem qi9 : PureC Tryz.prog 106 [.imm (.sl [])] .nocap := by
  refine yp tabs Tryz.func106 8 [.tmp 2] rfl rfl rfl rfl rfl ?_; intro w0 X
  (repeat' (first | ((with_reducible show AL _ _ _ _ _); first | refine yae rfl (ybp tabs rfl rfl rfl rfl rfl rfl) rfl ?_ | (refine yf tabs rfl ?_; try dsimp only [len, List.nil_append, List.cons_append]) | refine ybm tabs rfl rfl rfl rfl rfl rfl rfl (fun b hb => ?_) | refine yae rfl (ybc tabs rfl rfl rfl rfl rfl rfl (SrcA.imm (rows := []) tabs rfl rfl rfl (by simp))) rfl ?_ | refine yn ?_) | refine ym ?_ | refine ya ?_ | refine yb ?_ | refine yg ?_ | refine yi rfl ?_ | refine yh rfl ?_ | (refine yk rfl (fun hc => ?_) (fun hc => ?_) <;> (try simp only [hsx] at hc) <;> (try first | omega | contradiction | (simp [qa] at hc; done))) | refine yo ?_ | refine yc ?_))
  · exact yap rfl fun γ κ a W x hC hr => by cases hr; exact .nocap _
  · exact yap rfl (Fz.im rfl)
theorem cloneD0' {l : List Int} (h : l = []) : PureC Tryz.prog 106 [.imm (.sl (l.map u16))] .nocap := by subst h; exact qi9
theorem qfo (n : Node) (hn : FitN n) (hk : n.data = []) : PureC Tryz.prog 94 [n.av] (.agg (nodeRowD n .nocap)) := by
  refine yp tabs Tryz.func94 16 [.cell 2 44] rfl rfl rfl rfl rfl ?_; intro w0 X
  (repeat' (first | ((with_reducible show AL _ _ _ _ _); first | (refine yf tabs rfl ?_; try dsimp only [len, List.nil_append, List.cons_append]) | refine AL.op rfl (yd rfl rfl rfl rfl (cloneD0' hk) rfl) ?_ | refine AL.op rfl (yd rfl rfl rfl rfl (qcm n.attrs hn.attrs) rfl) ?_ | refine AL.op rfl (yd rfl rfl rfl rfl (qes n.kids hn.kids) rfl) ?_ | refine yn ?_) | refine ym ?_ | refine ya ?_ | refine yb ?_ | refine yg ?_ | refine yo ?_ | refine yc ?_))
  exact yap rfl (Fz.im rfl)
theorem qge (n : Node) (hn : FitN n) (hk : n.data ≠ []) : GenC Tryz.prog 94 [⟨55, 1, []⟩] [n.av] (.agg (nodeRowD n (.os 0 n.data.length))) [⟨55, 1, n.data.map cU⟩] := by
  have eR : ∀ m : Nat, (n.data.map cU).map (·.map (ren1 (rho [0] m))) = n.data.map cU := by
    intro m; simp [cU, ren1, ren0]
  refine yah tabs Tryz.func94 16 [.cell 2 44] rfl rfl rfl rfl rfl ?_; intro w0 X γ κ
  (repeat' (first | ((with_reducible show AL _ _ _ _ _); first | (refine yf tabs rfl ?_; try dsimp only [len, List.nil_append, List.cons_append]) | refine AL.op rfl (yd rfl rfl rfl rfl (qes n.kids hn.kids) rfl) ?_ | refine AL.op rfl (yd rfl rfl rfl rfl (qcm n.attrs hn.attrs) rfl) ?_ | refine yz [0] 3 rfl rfl rfl rfl rfl (caps := []) rfl (qi8 n.data hn.data hk) rfl rfl rfl rfl rfl rfl (by simp only [List.all_cons, List.all_nil, List.all_map, Function.comp_def, cI, cB, cU, iav, bav, AV.sc1, AV.sc0, Bool.and_true, Bool.and_self, qh]; try rfl) rfl (hpA := [⟨55, 1, n.data.map cU⟩]) (by simp only [List.map_cons, List.map_nil, renB, eR]) rfl rfl ?_ | refine yn ?_) | refine ym ?_ | refine ya ?_ | refine yb ?_ | refine yg ?_ | refine yo ?_ | refine yc ?_))
  refine yal 1 rfl rfl rfl rfl ?_ (by simp [cxG])
  exact (by simp only [List.all_cons, List.all_nil, List.all_map, Function.comp_def, cI, cB, cU, iav, bav, AV.sc1, AV.sc0, Bool.and_true, Bool.and_self, qh]; try rfl)
def rowsD (f : List Node) (p : Int) (k : AV) : List (List AV) := (f.map rowS).set p.toNat (nodeRowD (atI f p) k)
theorem qas (f : List Node) (p : Int) (k : AV) : (rowsD f p k).length = f.length := by unfold rowsD; simp
theorem qb5 (f : List Node) (p : Int) (k : AV) (hp : 0 ≤ p) (hp1 : p < f.length) (i : Int) (h0 : 0 ≤ i) (h1 : i < f.length) : atI (rowsD f p k) i = if i = p then nodeRowD (atI f p) k else rowS (atI f i) := by
  unfold rowsD
  rw [qt _ _ _ _ hp (by simpa using hp1) h0, qch _ _ _ h0 h1]
theorem qdt {f : List Node} {p : Int} {k : AV} {r : List AV} (h : r ∈ rowsD f p k) : r = nodeRowD (atI f p) k ∨ ∃ n ∈ f, r = rowS n := by
  unfold rowsD at h
  rcases List.mem_or_eq_of_mem_set h with h | h
  · obtain ⟨n, h1, h2⟩ := List.mem_map.1 h
    exact .inr ⟨n, h1, h2.symm⟩
  · exact .inl h
theorem q0 (f : List Node) (p : Int) (k : AV) (m : Nat) (h : k.sc1 m = true) : (rowsD f p k).all (fun r => r.all (AV.sc1 m)) = true := by
  rw [List.all_eq_true]
  intro r hr
  rcases qdt hr with rfl | ⟨n, _, rfl⟩
  · unfold nodeRowD
    simp only [List.all_cons, List.all_nil, h]
    rfl
  · exact qba n m
theorem qja (f : List Node) (p : Int) (hf : Fit f) (hp : 0 ≤ p) (hp1 : p < f.length) (hk : (atI f p).data ≠ []) : GenC Tryz.prog 70 [⟨44, 16, []⟩, ⟨55, 1, []⟩] [fav f] (.agg [.os 0 f.length]) [⟨44, 16, rowsD f p (.os 1 (atI f p).data.length)⟩, ⟨55, 1, (atI f p).data.map cU⟩] := by
  have hl := hf.len
  have hm : (List.map Node.iv f).length = f.length := List.length_map _
  obtain ⟨T, hT0⟩ : ∃ T, T = rowsD f p (.os 1 (atI f p).data.length) := ⟨_, rfl⟩
  rw [← hT0]
  have hT : T.length = f.length := by rw [hT0, qas]
  have hat : ∀ i : Int, 0 ≤ i → i < f.length → atI T i = if i = p then nodeRowD (atI f p) (.os 1 (atI f p).data.length) else rowS (atI f i) := fun i h0 h1 => by rw [hT0]; exact qb5 f p _ hp hp1 i h0 h1
  have hsc : ∀ k, 2 ≤ k → T.all (fun r => r.all (AV.sc1 k)) = true := fun k hk => by
    rw [hT0]; exact q0 f p _ k (by simp only [AV.sc1, AV.sc0, Nat.blt_eq]; omega)
  clear hT0
  obtain ⟨K, hK⟩ : ∃ K : Int → List Int, ∀ i, K i = if p < i then (atI f p).data else [] := ⟨fun i => if p < i then (atI f p).data else [], fun _ => rfl⟩
  have eR : ∀ m : Nat, ((atI f p).data.map cU).map (·.map (ren1 (rho [1] m))) = (atI f p).data.map cU := by
    intro m; simp [cU, ren1, ren0]
  have hz : ∀ k, (ti44.zero.all (AV.sc1 k)) = true := fun k => rfl
  refine yah tabs Tryz.func70 27 [.cell 2 24] rfl rfl rfl rfl rfl ?_; intro w0 X γ κ
  (repeat' (first | ((with_reducible show AL _ _ _ _ _); first | (refine yf tabs rfl ?_; try dsimp only [len, List.nil_append, List.cons_append]) | refine yae rfl (ybq 0 tabs rfl rfl rfl rfl rfl rfl rfl rfl rfl (by omega) (by omega) (by omega) rfl (by simp only [ti44]; omega)) rfl ?_ | refine yn ?_ | (refine AL.op rfl (yj rfl rfl rfl rfl rfl (by omega) (by omega)) ?_) | (refine AL.op rfl (ye tabs rfl rfl rfl rfl rfl rfl rfl (fun _ => rfl) (by decide) (by omega) (by omega)) ?_)) | ((with_reducible show DQ _ _ _ _ _ _); first | refine DQ.stepc (LS.val tabs rfl rfl rfl) rfl rfl rfl rfl rfl ?_ | refine DQ.stepc (yu rfl rfl) rfl rfl rfl rfl rfl ?_ | refine DQ.nilM (by kernel_rfl) ?_ | refine DQ.stepc (yad rfl rfl rfl rfl rfl rfl (by omega) (by omega)) rfl rfl rfl rfl rfl ?_ | refine DQ.stepc (yw tabs rfl rfl rfl rfl rfl rfl rfl rfl (fun _ => rfl) (by decide) (by omega) (by omega)) rfl rfl rfl rfl rfl ?_) | refine ym ?_ | refine ya ?_ | refine yb ?_ | refine yg ?_ | refine AW.block ?_ | refine yy ?_ | refine yi rfl ?_ | refine yh rfl ?_ | (refine yk rfl (fun hc => ?_) (fun hc => ?_) <;> (try simp only [hsx] at hc) <;> (try first | omega | contradiction | (simp [qa] at hc; done))) | refine yo ?_ | refine yaa ?_ | refine yc ?_ | refine yt ?_ | refine yab ?_ | refine yx ?_ | refine InB.off rfl ?_ | refine yaf ?_ | refine yac ?_ | refine yr mixed (by kernel_rfl) ?_))
  refine yao (α := Int) (fun i => ⟨[(2, .ptr 3 1 0 0), (3, .ptr 4 1 0 0), (12, .imm (.sl (f.map Node.iv))), (13, iav (List.map Node.iv f).length), (14, iav i)], [⟨44, 16, T.take i.toNat ++ List.replicate (f.length - i.toNat) ti44.zero⟩, ⟨55, 1, (K i).map cU⟩, ⟨24, 1, [[.imm (.sl (f.map Node.iv))]]⟩, ⟨24, 1, [[.nils]]⟩, ⟨24, 1, [[.os 0 f.length]]⟩]⟩) (fun i => 0 ≤ i ∧ i ≤ f.length) (fun i => (f.length - i).toNat) 0 (yag 5 (by rw [hK, if_neg (by omega), ← hm]; rfl) (by repeat' (first | exact trivial | refine ⟨rfl, ?_⟩)) rfl (by simp only [qax]; exact ⟨qa9 _ _ _ (hsc _ (by omega)), (by simp only [List.all_cons, List.all_nil, List.all_map, Function.comp_def, cI, cB, cU, iav, bav, AV.sc1, AV.sc0, Bool.and_true, Bool.and_self, qh]; try rfl), rfl, rfl, rfl⟩) (by simp [cxG])) ⟨by omega, by omega⟩ ?_
  intro i ⟨h0, h2⟩
  by_cases hip : i = p
  · subst hip
    have e1 : K i = [] := by rw [hK, if_neg (by omega)]
    have e2 : K (i + 1) = (atI f i).data := by rw [hK, if_pos (by omega)]
    have e3 := hat i hp hp1
    rw [if_pos rfl] at e3
    rw [e1]
    (repeat' (first | ((with_reducible show AL _ _ _ _ _); first | (refine yf tabs rfl ?_; try dsimp only [len, List.nil_append, List.cons_append]) | refine yn ?_ | (refine AL.op rfl (yj rfl rfl rfl rfl rfl (by omega) (by omega)) ?_) | (refine AL.op rfl (ye tabs rfl rfl rfl rfl rfl rfl rfl (fun _ => rfl) (by decide) (by omega) (by omega)) ?_)) | ((with_reducible show DQ _ _ _ _ _ _); first | refine DQ.stepc (LS.callG1 1 (r' := .agg (nodeRowD (atI f i) (.os 1 (atI f i).data.length))) rfl rfl rfl rfl rfl (qge (atI f i) (hf.atI i hp hp1) hk) rfl (fun _ => rfl) rfl rfl rfl (by simp only [List.all_cons, List.all_nil, List.all_map, Function.comp_def, cI, cB, cU, iav, bav, AV.sc1, AV.sc0, Bool.and_true, Bool.and_self, qh]; try rfl) (bA := ⟨55, 1, (atI f i).data.map cU⟩) (fun n => by simp only [renB, eR]) (fun _ => rfl)) rfl rfl rfl rfl rfl ?_ | refine DQ.stepc (yar (b := ⟨44, 16, T.take i.toNat ++ List.replicate (f.length - i.toNat) ti44.zero⟩) tabs rfl rfl rfl rfl rfl rfl rfl rfl rfl (qaf _ _ _ _ hT h0 h2).symm rfl (by omega) (by omega)) rfl rfl rfl rfl rfl ?_ | refine DQ.stepc (LS.store (i := ti44) (v := .agg (nodeRowD (atI f i) (.os 1 (atI f i).data.length))) (ty := 44) (sz := 16) (rows := T.take i.toNat ++ List.replicate (f.length - i.toNat) ti44.zero) tabs rfl rfl rfl rfl rfl rfl rfl (qaf _ _ _ _ hT h0 h2).symm rfl rfl (by decide) (qdr _ _ _ _ hT h0 (by omega))) rfl rfl rfl rfl rfl ?_ | refine DQ.stepc (LS.val tabs rfl rfl rfl) rfl rfl rfl rfl rfl ?_ | refine DQ.stepc (yu rfl rfl) rfl rfl rfl rfl rfl ?_ | refine DQ.nilM (by kernel_rfl) ?_ | refine DQ.stepc (yad rfl rfl rfl rfl rfl rfl (by omega) (by omega)) rfl rfl rfl rfl rfl ?_ | refine DQ.stepc (yw tabs rfl rfl rfl rfl rfl rfl rfl rfl (fun _ => rfl) (by decide) (by omega) (by omega)) rfl rfl rfl rfl rfl ?_) | refine ym ?_ | refine ya ?_ | refine yb ?_ | refine yg ?_ | refine AW.block ?_ | refine yy ?_ | refine yi rfl ?_ | refine yh rfl ?_ | (refine yk rfl (fun hc => ?_) (fun hc => ?_) <;> (try simp only [hsx] at hc) <;> (try first | omega | contradiction | (simp [qa] at hc; done))) | refine yo ?_ | refine yaa ?_ | refine yc ?_ | refine yt ?_ | refine yab ?_ | refine yx ?_ | refine InB.off rfl ?_ | refine yaf ?_ | refine yac ?_ | refine yr mixed (by kernel_rfl) ?_))
    refine yak (i + 1) (yag 5 (by rw [← take_set T ti44.zero f.length i hT h0 (by assumption), e2, e3]; rfl) (by repeat' (first | exact trivial | refine ⟨rfl, ?_⟩)) rfl (by simp only [qax]; exact ⟨qa9 _ _ _ (hsc _ (by omega)), (by simp only [List.all_cons, List.all_nil, List.all_map, Function.comp_def, cI, cB, cU, iav, bav, AV.sc1, AV.sc0, Bool.and_true, Bool.and_self, qh]; try rfl), rfl, rfl, rfl⟩) (by simp [cxG])) ⟨by omega, by omega⟩ (by omega)
  · have e2 : i < f.length → K (i + 1) = K i := fun hi => by
      rw [hK, hK]
      by_cases h : p < i
      · rw [if_pos (by omega), if_pos h]
      · rw [if_neg (by omega), if_neg h]
    have e3 : i < f.length → atI T i = rowS (atI f i) := fun hi => by rw [hat i h0 hi, if_neg hip]
    (repeat' (first | ((with_reducible show AL _ _ _ _ _); first | (refine yf tabs rfl ?_; try dsimp only [len, List.nil_append, List.cons_append]) | refine yn ?_ | (refine AL.op rfl (yj rfl rfl rfl rfl rfl (by omega) (by omega)) ?_) | (refine AL.op rfl (ye tabs rfl rfl rfl rfl rfl rfl rfl (fun _ => rfl) (by decide) (by omega) (by omega)) ?_)) | ((with_reducible show DQ _ _ _ _ _ _); first | refine DQ.stepc (yai rfl rfl rfl rfl rfl (qa0 (atI f i) (hf.atI i h0 (by omega))) rfl) rfl rfl rfl rfl rfl ?_ | refine DQ.stepc (yar (b := ⟨44, 16, T.take i.toNat ++ List.replicate (f.length - i.toNat) ti44.zero⟩) tabs rfl rfl rfl rfl rfl rfl rfl rfl rfl (qaf _ _ _ _ hT h0 h2).symm rfl (by omega) (by omega)) rfl rfl rfl rfl rfl ?_ | refine DQ.stepc (LS.store (i := ti44) (v := .agg (rowS (atI f i))) (ty := 44) (sz := 16) (rows := T.take i.toNat ++ List.replicate (f.length - i.toNat) ti44.zero) tabs rfl rfl rfl rfl rfl rfl rfl (qaf _ _ _ _ hT h0 h2).symm rfl rfl (by decide) (qdr _ _ _ _ hT h0 (by omega))) rfl rfl rfl rfl rfl ?_ | refine DQ.stepc (LS.val tabs rfl rfl rfl) rfl rfl rfl rfl rfl ?_ | refine DQ.stepc (yu rfl rfl) rfl rfl rfl rfl rfl ?_ | refine DQ.nilM (by kernel_rfl) ?_ | refine DQ.stepc (yad rfl rfl rfl rfl rfl rfl (by omega) (by omega)) rfl rfl rfl rfl rfl ?_ | refine DQ.stepc (yw tabs rfl rfl rfl rfl rfl rfl rfl rfl (fun _ => rfl) (by decide) (by omega) (by omega)) rfl rfl rfl rfl rfl ?_) | refine ym ?_ | refine ya ?_ | refine yb ?_ | refine yg ?_ | refine AW.block ?_ | refine yy ?_ | refine yi rfl ?_ | refine yh rfl ?_ | (refine yk rfl (fun hc => ?_) (fun hc => ?_) <;> (try simp only [hsx] at hc) <;> (try first | omega | contradiction | (simp [qa] at hc; done))) | refine yo ?_ | refine yaa ?_ | refine yc ?_ | refine yt ?_ | refine yab ?_ | refine yx ?_ | refine InB.off rfl ?_ | refine yaf ?_ | refine yac ?_ | refine yr mixed (by kernel_rfl) ?_))
    · refine yak (i + 1) (yag 5 (by rw [← take_set T ti44.zero f.length i hT h0 (by assumption), e2 (by assumption), e3 (by assumption)]; rfl) (by repeat' (first | exact trivial | refine ⟨rfl, ?_⟩)) rfl (by simp only [qax]; exact ⟨qa9 _ _ _ (hsc _ (by omega)), (by simp only [List.all_cons, List.all_nil, List.all_map, Function.comp_def, cI, cB, cU, iav, bav, AV.sc1, AV.sc0, Bool.and_true, Bool.and_self, qh]; try rfl), rfl, rfl, rfl⟩) (by simp [cxG])) ⟨by omega, by omega⟩ (by omega)
    · have e : T.take i.toNat ++ List.replicate (f.length - i.toNat) ti44.zero = T := by
        rw [qo (by omega), show f.length - i.toNat = 0 by omega]; simp
      have e4 : K i = (atI f p).data := by rw [hK, if_pos (by omega)]
      refine yal 2 rfl rfl (by rw [e, e4]; rfl) rfl ?_ (by simp [cxG])
      simp only [qax]
      exact ⟨hsc _ (by omega), (by simp only [List.all_cons, List.all_nil, List.all_map, Function.comp_def, cI, cB, cU, iav, bav, AV.sc1, AV.sc0, Bool.and_true, Bool.and_self, qh]; try rfl)⟩
end Go.Proofs.YtmhejcnaanocpaaGreat.A
