/- Contracts on the machine itself: slices.Insert in the middle (U). -/
import Derived.Test.YtmhejcnaanocpaaGreatXAskGrpAK
import Derived.Test.YtmhejcnaanocpaaGreatProg
import Derived.Test.YtmhejcnaanocpaaGreatXAskGrpAQ
namespace Go.Proofs.YtmhejcnaanocpaaGreat.A
open Go.Shelf Go.RowKit Go.Lib
set_option linter.unusedVariables false
set_option linter.unusedSimpArgs false
set_option maxHeartbeats 4000000 in
set_option maxRecDepth 100000 in
theorem qgx (b n c i vb voff m vc : Nat) (cs vs : List Value) (w : World) (hi : i < n) (hm : 0 < m) (hroom : n + m ≤ c) (hc63 : c ≤ 9223372036854775807) (hvb : vb ≠ b)
    (hcl : cs.length = n) (hvl : vs.length = m)
    (hcs : ∀ j v, cs[j]? = some v → w.cell? ⟨b, j, none⟩ = some v) (hsp : ∀ j, j < n + m → (w.cell? ⟨b, j, none⟩).isSome = true) (hfz : ∀ j, w.frozen? ⟨b, j, none⟩ = false)
    (hvs : ∀ j v, vs[j]? = some v → w.cell? ⟨vb, voff + j, none⟩ = some v) (h1c : ∀ v ∈ cs, v.oneCell' = true) (h1v : ∀ v ∈ vs, v.oneCell' = true) :
    Calls Tryz.prog 180 #[.slice (some ⟨b, 0, none⟩) n c, .int .i64 i, .slice (some ⟨vb, voff, none⟩) m vc] w fun e w' =>
      e = .returned (.slice (some ⟨b, 0, none⟩) (n + m) c) ∧ w' = (w.drew.setCells b (i + m) (cs.drop i)).setCells b i vs := by
  have mixed : Tryz.prog.follows .mixedOrders = true := by kernel_rfl
  have tS : Tryz.prog.underlying 36 = some (.slice 55) := Tryz.underlying36
  have tI : Tryz.prog.underlying 3 = some (.int .i64) := Tryz.underlying3
  have iE : (Tryz.prog.info? 55).map (fun i => (i.zero, i.size, i.bytes)) = some (some (Value.int .u16 0), 1, 2) := by kernel_rfl
  obtain ⟨i0, hi0, hz0, hzs, hzb⟩ := info_parts iE
  have hsz : (Tryz.prog.info? 55).map (·.size) = some 1 := by rw [hi0]; simp [hzs]
  have hz1 : ¬ ((m : Int) = 0) := by omega
  have hz2 : ¬ ((i : Int) = (n : Int)) := by omega
  have hov : ∀ lb cb, (callFunc 181 #[.slice (some ⟨vb, voff, none⟩) m vc, .slice (some ⟨b, i + m, none⟩) lb cb]).run Tryz.prog w = .ok (.value (.bool false)) w := fun lb cb => by
    obtain ⟨tA, kA, hsa, hkA, _⟩ := cell_shape (hvs 0 _ (List.getElem?_eq_getElem (by omega)))
    obtain ⟨y, hy⟩ := Option.isSome_iff_exists.1 (hsp 0 (by omega))
    obtain ⟨tB, kB, hsb, _⟩ := cell_shape hy
    rw [run_callFunc_extern Tryz.func181 (by kernel_rfl) (by kernel_rfl) (by kernel_rfl) (e := Extern.SlicesOverlaps.overlaps #[35, 35] #[4]) (by kernel_rfl),
      (qbm w 35 4 55 Tryz.underlying35 1 Tryz.sizeOf55 ⟨vb, voff, none⟩ ⟨b, i + m, none⟩ m vc lb cb hvb tA tB kA kB hsa hsb hkA (hfz _) (hfz _)).2]
    rfl
  have hdl : (cs.drop i).length = n - i := by rw [List.length_drop, hcl]
  have hw1 : IntKind.i64.wrap ((i : Int) + (m : Int)) = (i : Int) + (m : Int) := by rw [IntKind.wrap_i64]; omega
  have hb1 : (0 : Int) ≤ (i : Int) + (m : Int) := by omega
  have hin : i ≤ n := by omega
  have htn : ((i : Int) + (m : Int)).toNat = i + m := by omega
  have hb2 : ¬ (c = i + m) := by omega
  have hb3 : (i : Int) ≤ (n : Int) + (m : Int) := by omega
  have hb4 : ¬ (c = i) := by omega
  have hcp1 : ∀ ty dc sc, (Builtin.copy_ #[36, 36] ty #[.slice (some ⟨b, i + m, none⟩) (n + m - (i + m)) dc, .slice (some ⟨b, i, none⟩) (n + m - i) sc]).run Tryz.prog w.drew = .ok (goInt (cs.drop i).length) (w.drew.setCells b (i + m) (cs.drop i)) := fun ty dc sc =>
    run_copy_cells w.drew _ _ ty 55 b (i + m) (n + m - (i + m)) dc ⟨b, i, none⟩ (n + m - i) sc (cs.drop i) tS hsz (by rw [hdl]; simp only [Nat.min_def]; split <;> omega)
      (fun j v hj => by rw [Addr.add_lit]; exact hcs (i + j) v (by rwa [List.getElem?_drop] at hj))
      (fun j hj => hsp _ (by omega)) (fun j hj => hfz _) (fun v hv => h1c v (List.mem_of_mem_drop hv))
  obtain ⟨W1, hW1⟩ : ∃ W1, W1 = w.drew.setCells b (i + m) (cs.drop i) := ⟨_, rfl⟩
  have hsp1 : ∀ k, k < n + m → (W1.cell? ⟨b, k, none⟩).isSome = true := fun k hk => by
    rw [hW1]
    exact isSome_setCells b (cs.drop i) (i + m) w.drew (fun j hj => hsp _ (by omega)) _ (hsp k hk)
  have hcp2 : ∀ (W : World), (∀ x, W.cell? x = W1.cell? x) → (∀ x, W.frozen? x = W1.frozen? x) → ∀ ty dc, (Builtin.copy_ #[36, 35] ty #[.slice (some ⟨b, i, none⟩) (n + m - i) dc, .slice (some ⟨vb, voff, none⟩) m vc]).run Tryz.prog W = .ok (goInt vs.length) (W.setCells b i vs) := fun W hWc hWf ty dc =>
    run_copy_cells W _ _ ty 55 b i (n + m - i) dc ⟨vb, voff, none⟩ m vc vs tS hsz (by rw [hvl]; simp only [Nat.min_def]; split <;> omega)
      (fun j v hj => by
        rw [Addr.add_lit, hWc, hW1, World.cell?_setCells_out b _ _ _ _ (fun h _ => absurd h hvb)]
        exact hvs j v hj)
      (fun j hj => by rw [hWc]; exact hsp1 _ (by omega)) (fun j hj => by rw [hWf, hW1, World.frozen?_setCells]; exact hfz _) h1v
  rw [← hW1] at hcp1
  go_enter Tryz.func180, Tryz.ntmps180
  go_wp2_with (simp only [hov])
  go_region_law_o (refine step_copy_runI rfl _ _ 36 36 rfl _ _ (by simp [Act.eval, Act.put]) (by simp [Act.eval, Act.put]) (hcp1 _ _ _) ?_)
  go_wp2_with (at_builtin; refine wpList_copy_runI _ rfl _ _ 36 35 rfl _ _ rfl rfl (hcp2 _ (fun _ => rfl) (fun _ => rfl) _ _) ?_)
  go_ret
  first | exact ⟨rfl, rfl⟩ | exact ⟨rfl, by rw [hW1]⟩
set_option maxHeartbeats 4000000 in
set_option maxRecDepth 100000 in
theorem qh6 (b n c i vb voff m vc : Nat) (cs vs : List Value) (w : World) (hi : i < n) (hm : 0 < m) (hnc : n ≤ c) (hroom : c < n + m) (hbig : (n + m) * 2 ≤ 140737488355328) (hbig2 : n + m ≤ 140737488355328)
    (hcl : cs.length = n) (hvl : vs.length = m)
    (hcs : ∀ j v, cs[j]? = some v → w.cell? ⟨b, j, none⟩ = some v)
    (hvs : ∀ j v, vs[j]? = some v → w.cell? ⟨vb, voff + j, none⟩ = some v) (h1c : ∀ v ∈ cs, v.oneCell' = true) (h1v : ∀ v ∈ vs, v.oneCell' = true) :
    Calls Tryz.prog 180 #[.slice (some ⟨b, 0, none⟩) n c, .int .i64 i, .slice (some ⟨vb, voff, none⟩) m vc] w fun e w' =>
      e = .returned (.slice (some ⟨w.heap.size, 0, none⟩) (n + m) (grownCap w (n + m) c 55)) ∧
      w' = (((w.alloc (.cells ((cs.take i).toArray ++ Builtin.zeroCells (Value.int .u16 0).cells (n + m - i) ++ Builtin.zeroCells (Value.int .u16 0).cells (grownCap w (n + m) c 55 - (n + m))) 55)).drew.setCells w.heap.size i vs).drew).setCells w.heap.size (i + m) (cs.drop i) := by
  have mixed : Tryz.prog.follows .mixedOrders = true := by kernel_rfl
  have tS : Tryz.prog.underlying 36 = some (.slice 55) := Tryz.underlying36
  have tI : Tryz.prog.underlying 3 = some (.int .i64) := Tryz.underlying3
  have iE : (Tryz.prog.info? 55).map (fun i => (i.zero, i.size, i.bytes)) = some (some (Value.int .u16 0), 1, 2) := by kernel_rfl
  obtain ⟨i0, hi0, hz0, hzs, hzb⟩ := info_parts iE
  have hsz : (Tryz.prog.info? 55).map (·.size) = some 1 := by rw [hi0]; simp [hzs]
  have hz1 : ¬ ((m : Int) = 0) := by omega
  have hz2 : ¬ ((i : Int) = (n : Int)) := by omega
  have hz3 : (c : Int) < (n : Int) + (m : Int) := by omega
  have hbw : b < w.heap.size := block_lt_of_cell (hcs 0 _ (List.getElem?_eq_getElem (by omega)))
  have hvw : vb < w.heap.size := block_lt_of_cell (hvs 0 _ (List.getElem?_eq_getElem (by omega)))
  have hkk : (n : Int) + (m : Int) - (i : Int) = ((n + m - i : Nat) : Int) := by omega
  have hik : i + (n + m - i) = n + m := by omega
  have hold : (Builtin.firstCells i0.size i (.slice (some ⟨b, 0, none⟩) i c)).run Tryz.prog w.drew = .ok (cs.take i).toArray w.drew := by
    rw [hzs]
    exact run_firstCells_some w.drew 1 i ⟨b, 0, none⟩ i c (cs.take i) (by rw [List.length_take]; omega) (fun j v hj => by
      rw [Addr.add_lit, Nat.zero_add]
      rw [List.getElem?_take] at hj
      split at hj
      · exact hcs j v hj
      · cases hj)
  have hrz : ∀ ty, (Builtin.append_ #[36, 3] ty #[.slice (some ⟨b, 0, none⟩) i c, .int .i64 ((n : Int) + (m : Int) - (i : Int))]).run Tryz.prog w =
      .ok (.slice (some ⟨w.heap.size, 0, none⟩) (n + m) (grownCap w (n + m) c 55)) (w.drew.alloc (.cells ((cs.take i).toArray ++ Builtin.zeroCells (Value.int .u16 0).cells (n + m - i) ++ Builtin.zeroCells (Value.int .u16 0).cells (grownCap w (n + m) c 55 - (n + m))) 55)) := fun ty => by
    have h := Lib.run_append_grow_zeros w 36 3 ty 55 i0 _ .i64 .i64 tS tI hi0 hz0 (some ⟨b, 0, none⟩) i c (cs.take i) hold (n + m - i) (by omega) (by omega) (by omega) (by omega) (by rw [hzb]; omega) (by rw [hzb, hik]; exact growslice_fits hroom hbig)
    rw [hik] at h
    rw [hkk]
    exact h
  obtain ⟨G, hG⟩ : ∃ G, G = grownCap w (n + m) c 55 := ⟨_, rfl⟩
  obtain ⟨ROW, hROW⟩ : ∃ ROW : Array Value, ROW = (cs.take i).toArray ++ Builtin.zeroCells (Value.int .u16 0).cells (n + m - i) ++ Builtin.zeroCells (Value.int .u16 0).cells (G - (n + m)) := ⟨_, rfl⟩
  rw [← hG] at hrz ⊢
  rw [← hROW] at hrz ⊢
  have hRl : n + m ≤ ROW.size := by
    rw [hROW]
    simp [Builtin.zeroCells, Value.cells]
    omega
  obtain ⟨W1, hW1⟩ : ∃ W1, W1 = w.drew.alloc (.cells ROW 55) := ⟨_, rfl⟩
  rw [← hW1] at hrz
  have hN : ∀ j, j < n + m → (W1.cell? ⟨w.heap.size, j, none⟩).isSome = true := fun j hj => by
    rw [hW1, World.cell?_alloc_at (w := w.drew) ROW _ w.heap.size j rfl, Array.getElem?_eq_getElem (by omega)]; rfl
  have hNf : ∀ j, W1.frozen? ⟨w.heap.size, j, none⟩ = false := fun j => by rw [hW1]; exact World.frozen?_alloc_at (w := w.drew) ROW _ w.heap.size j rfl
  have hOb : ∀ j v, w.cell? ⟨b, j, none⟩ = some v → W1.cell? ⟨b, j, none⟩ = some v := fun j v h => by rw [hW1, World.cell?_alloc_past (w := w.drew) _ b j hbw]; exact h
  have hOv : ∀ j v, w.cell? ⟨vb, j, none⟩ = some v → W1.cell? ⟨vb, j, none⟩ = some v := fun j v h => by rw [hW1, World.cell?_alloc_past (w := w.drew) _ vb j hvw]; exact h
  have hcpA : ∀ (W : World), (∀ x, W.cell? x = W1.cell? x) → (∀ x, W.frozen? x = W1.frozen? x) → ∀ ty dc, (Builtin.copy_ #[36, 35] ty #[.slice (some ⟨w.heap.size, i, none⟩) (n + m - i) dc, .slice (some ⟨vb, voff, none⟩) m vc]).run Tryz.prog W = .ok (goInt vs.length) (W.setCells w.heap.size i vs) := fun W hWc hWf ty dc =>
    run_copy_cells W _ _ ty 55 w.heap.size i (n + m - i) dc ⟨vb, voff, none⟩ m vc vs tS hsz (by rw [hvl]; simp only [Nat.min_def]; split <;> omega)
      (fun j v hj => by rw [Addr.add_lit, hWc]; exact hOv _ v (hvs j v hj))
      (fun j hj => by rw [hWc]; exact hN _ (by omega)) (fun j hj => by rw [hWf]; exact hNf _) h1v
  have hGn : n + m ≤ G := by rw [hG]; exact grownCap_ge w _ _ _
  have hG63 : G ≤ 9223372036854775807 := by
    have := grownCap_le_maxLen w (n + m) c 55 (by unfold maxLen; omega)
    rw [← hG] at this
    unfold maxLen at this
    omega
  have hGi : ¬ (G = i) := by omega
  have hGim : ¬ (G = i + m) := by omega
  have hci : ¬ (c = i) := by omega
  have hbN : b ≠ w.heap.size := by omega
  have hdl : (cs.drop i).length = n - i := by rw [List.length_drop, hcl]
  have hcpB : ∀ (W : World), (∀ x, W.cell? x = (W1.setCells w.heap.size i vs).cell? x) → (∀ x, W.frozen? x = (W1.setCells w.heap.size i vs).frozen? x) → ∀ ty dc sc, (Builtin.copy_ #[36, 36] ty #[.slice (some ⟨w.heap.size, i + m, none⟩) (n + m - (i + m)) dc, .slice (some ⟨b, i, none⟩) (n - i) sc]).run Tryz.prog W = .ok (goInt (cs.drop i).length) (W.setCells w.heap.size (i + m) (cs.drop i)) := fun W hWc hWf ty dc sc =>
    run_copy_cells W _ _ ty 55 w.heap.size (i + m) (n + m - (i + m)) dc ⟨b, i, none⟩ (n - i) sc (cs.drop i) tS hsz (by rw [hdl]; simp only [Nat.min_def]; split <;> omega)
      (fun j v hj => by
        rw [Addr.add_lit, hWc, World.cell?_setCells_out _ _ _ _ _ (fun h _ => absurd h hbN)]
        exact hOb _ v (hcs (i + j) v (by rwa [List.getElem?_drop] at hj)))
      (fun j hj => by rw [hWc]; exact isSome_setCells _ _ _ _ (fun t ht => hN _ (by omega)) _ (hN _ (by omega)))
      (fun j hj => by rw [hWf, World.frozen?_setCells]; exact hNf _) (fun v hv => h1c v (List.mem_of_mem_drop hv))
  subst hW1
  have hE1 : ∀ x, ((w.alloc (.cells ROW 55)).drew).cell? x = (w.drew.alloc (.cells ROW 55)).cell? x := fun x => rfl
  have hE2 : ∀ x, ((w.alloc (.cells ROW 55)).drew).frozen? x = (w.drew.alloc (.cells ROW 55)).frozen? x := fun x => rfl
  have hF1 : ∀ x, (((w.alloc (.cells ROW 55)).drew.setCells w.heap.size i vs).drew).cell? x = ((w.drew.alloc (.cells ROW 55)).setCells w.heap.size i vs).cell? x := fun x => rfl
  have hF2 : ∀ x, (((w.alloc (.cells ROW 55)).drew.setCells w.heap.size i vs).drew).frozen? x = ((w.drew.alloc (.cells ROW 55)).setCells w.heap.size i vs).frozen? x := fun x => rfl
  have hw1 : IntKind.i64.wrap ((i : Int) + (m : Int)) = (i : Int) + (m : Int) := by rw [IntKind.wrap_i64]; omega
  have hb1 : (0 : Int) ≤ (i : Int) + (m : Int) := by omega
  have hin : i ≤ n := by omega
  have htn : ((i : Int) + (m : Int)).toNat = i + m := by omega
  have hb3 : (i : Int) ≤ (n : Int) := by omega
  clear hkk hik hold hROW hG hRl
  go_enter Tryz.func180, Tryz.ntmps180
  go_wp2_with (first
    | (at_builtin; refine Lib.wpList_append_run _ rfl _ _ _ _ rfl _ _ rfl rfl _ _ (hrz _) ?_)
    | (at_builtin; refine wpList_copy_runI _ rfl _ _ 36 35 rfl _ _ rfl rfl (hcpA _ hE1 hE2 _ _) ?_)
    | (at_builtin; refine wpList_copy_runI _ rfl _ _ 36 36 rfl _ _ rfl rfl (hcpB _ (fun _ => rfl) (fun _ => rfl) _ _ _) ?_))
  go_region_law_o (refine step_copy_runI rfl _ _ 36 36 rfl (.slice (some ⟨w.heap.size, i + m, none⟩) (n + m - (i + m)) (G - (i + m))) (.slice (some ⟨b, i, none⟩) (n - i) (c - i)) (by simp [Act.eval, Act.put]) (by simp [Act.eval, Act.put]) (hcpB _ hF1 hF2 3 (G - (i + m)) (c - i)) ?_)
  go_wp2
  go_ret
  exact ⟨rfl, rfl⟩
set_option maxHeartbeats 4000000 in
set_option maxRecDepth 100000 in
theorem qef (b n c i m vc : Nat) (vA : Option Addr) (vs : List Value) (w : World) (hi : i < n) (hnc : n ≤ c) (hroom : i + m ≤ c) (hc63 : c ≤ 9223372036854775807) (hvl : vs.length = m)
    (hsp : ∀ j, j < c → (w.cell? ⟨b, j, none⟩).isSome = true) (hfz : ∀ j, w.frozen? ⟨b, j, none⟩ = false) (hsrc : Src Tryz.prog 1 35 (.slice vA m vc) m vs w) :
    Calls Tryz.prog 155 #[.slice (some ⟨b, 0, none⟩) n c, .int .i64 i, .int .i64 n, .slice vA m vc] w fun e w' =>
      e = .returned (.slice (some ⟨b, 0, none⟩) (i + m) c) ∧ w' = (w.setCells b i vs).setCells b (i + m) (List.replicate (n - (i + m)) (Value.int .u16 0)) := by
  have mixed : Tryz.prog.follows .mixedOrders = true := by kernel_rfl
  have tS : Tryz.prog.underlying 36 = some (.slice 55) := Tryz.underlying36
  have tI : Tryz.prog.underlying 3 = some (.int .i64) := Tryz.underlying3
  have iE : (Tryz.prog.info? 55).map (fun i => (i.zero, i.size, i.bytes)) = some (some (Value.int .u16 0), 1, 2) := by kernel_rfl
  obtain ⟨i0, hi0, hz0, hzs, hzb⟩ := info_parts iE
  have hsz : (Tryz.prog.info? 55).map (·.size) = some 1 := by rw [hi0]; simp [hzs]
  have hij : ¬ ((i : Int) = (n : Int)) := by omega
  by_cases hlt : i + m < n
  · have hlt' : (i : Int) + (m : Int) < (n : Int) := by omega
    have hne : ¬ (c = i + m) := by omega
    have hcl : ∀ ty, (Builtin.clear_ #[36] ty #[.slice (some ⟨b, i + m, none⟩) (n - (i + m)) (c - (i + m))]).run Tryz.prog (w.setCells b i vs) = .ok (.tuple #[]) ((w.setCells b i vs).setCells b (i + m) (List.replicate (n - (i + m)) (Value.int .u16 0))) :=
      fun ty => Lib.run_clear_slice (w.setCells b i vs) _ _ ty _ tS Tryz.zeroValue55 rfl rfl b (i + m) _ _ (by omega) (fun t ht => isSome_setCells b _ _ _ (fun j hj => hsp _ (by omega)) _ (hsp _ (by omega))) (fun t ht => by rw [World.frozen?_setCells]; exact hfz _)
    go_enter Tryz.func155, Tryz.ntmps155
    go_wp2_with (at_builtin; refine wpList_append_room1 _ rfl _ _ 36 35 rfl 55 _ _ tS iE b 0 i c rfl _ rfl m vs hsrc hroom (by rw [hvl]; intro j hj; exact hsp _ (by omega)) (by rw [hvl]; intro j hj; exact hfz _) ?_; rw [Nat.zero_add])
    go_ret
    exact ⟨rfl, rfl⟩
  · have hlt' : ¬ ((i : Int) + (m : Int) < (n : Int)) := by omega
    have hz : n - (i + m) = 0 := by omega
    rw [hz]
    go_enter Tryz.func155, Tryz.ntmps155
    go_wp2_with (at_builtin; refine wpList_append_room1 _ rfl _ _ 36 35 rfl 55 _ _ tS iE b 0 i c rfl _ rfl m vs hsrc hroom (by rw [hvl]; intro j hj; exact hsp _ (by omega)) (by rw [hvl]; intro j hj; exact hfz _) ?_; rw [Nat.zero_add])
    go_ret
    exact ⟨rfl, rfl⟩
set_option maxHeartbeats 4000000 in
set_option maxRecDepth 100000 in
theorem qeg (b n c i m vc : Nat) (vA : Option Addr) (cs vs : List Value) (w : World) (hi : i < n) (hnc : n ≤ c) (hroom : c < i + m) (hbig : (i + m) * 2 ≤ 140737488355328) (hbig2 : i + m ≤ 140737488355328)
    (hcl : cs.length = n) (hvl : vs.length = m) (hcs : ∀ j v, cs[j]? = some v → w.cell? ⟨b, j, none⟩ = some v) (hsrc : Src Tryz.prog 1 35 (.slice vA m vc) m vs w) :
    Calls Tryz.prog 155 #[.slice (some ⟨b, 0, none⟩) n c, .int .i64 i, .int .i64 n, .slice vA m vc] w fun e w' =>
      e = .returned (.slice (some ⟨w.heap.size, 0, none⟩) (i + m) (grownCap w (i + m) c 55)) ∧
      w' = w.drew.alloc (.cells ((cs.take i ++ vs).toArray ++ Builtin.zeroCells (Value.int .u16 0).cells (grownCap w (i + m) c 55 - (i + m))) 55) := by
  have mixed : Tryz.prog.follows .mixedOrders = true := by kernel_rfl
  have tS : Tryz.prog.underlying 36 = some (.slice 55) := Tryz.underlying36
  have tI : Tryz.prog.underlying 3 = some (.int .i64) := Tryz.underlying3
  have iE : (Tryz.prog.info? 55).map (fun i => (i.zero, i.size, i.bytes)) = some (some (Value.int .u16 0), 1, 2) := by kernel_rfl
  obtain ⟨i0, hi0, hz0, hzs, hzb⟩ := info_parts iE
  have hsz : (Tryz.prog.info? 55).map (·.size) = some 1 := by rw [hi0]; simp [hzs]
  have hij : ¬ ((i : Int) = (n : Int)) := by omega
  have hlt' : ¬ ((i : Int) + (m : Int) < (n : Int)) := by omega
  have hsrc' : Src Tryz.prog i0.size 35 (.slice vA m vc) m vs w := by rw [hzs]; exact hsrc
  have hold : (Builtin.firstCells i0.size i (.slice (some ⟨b, 0, none⟩) i c)).run Tryz.prog w.drew = .ok (cs.take i).toArray w.drew := by
    rw [hzs]
    exact run_firstCells_some w.drew 1 i ⟨b, 0, none⟩ i c (cs.take i) (by rw [List.length_take]; omega) (fun j v hj => by
      rw [Addr.add_lit, Nat.zero_add]
      rw [List.getElem?_take] at hj
      split at hj
      · exact hcs j v hj
      · cases hj)
  have hrun : ∀ ty, (Builtin.append_ #[36, 35] ty #[.slice (some ⟨b, 0, none⟩) i c, .slice vA m vc]).run Tryz.prog w = _ := fun ty =>
    run_append_grow_src w 36 35 ty 55 i0 _ tS hi0 hz0 (some ⟨b, 0, none⟩) i c (cs.take i) hold _ m vs hsrc' hroom (by omega) (by rw [hzb]; exact growslice_fits hroom hbig)
  go_enter Tryz.func155, Tryz.ntmps155
  go_wp2_with (at_builtin; refine Lib.wpList_append_run _ rfl _ _ _ _ rfl _ _ rfl rfl _ _ (hrun _) ?_)
  all_goals (go_ret; exact ⟨rfl, rfl⟩)
theorem ownU {C : Cx} {s : St} {γ : Nat → Option Nat} {κ : Nat → Nat} {a : Act} {W : World} (hC : Conc C s γ κ a W) {id : Nat} {l : List Int} (hb : s.hp[id]? = some ⟨55, 1, l.map (cK .u16)⟩) (h0 : l ≠ []) :
    ∃ g sp, γ id = some g ∧ W.heap[g]? = some (.cells (l.map (Value.int .u16) ++ sp).toArray 55 (0, 0)) ∧ l.length + sp.length = κ id := by
  have hB := hC.blk id _ hb
  rcases hB.mem with ⟨h1, h2, h3⟩ | ⟨g, ys, sp, h1, h2, h3, h4⟩
  · exact absurd (List.map_eq_nil_iff.1 h2) h0
  · have e := qgm h4
    subst e
    exact ⟨g, sp, h1, h2, by have h3' : _ = κ id * 1 := h3; simpa using h3'⟩
theorem coreU {C : Cx} {s : St} {γ : Nat → Option Nat} {κ : Nat → Nat} {a : Act} {W : World} (hC : Conc C s γ κ a W) {id : Nat} {l v : List Int} (hb : s.hp[id]? = some ⟨55, 1, l.map (cK .u16)⟩) {i : Nat} (hi : i < l.length) (hm : 0 < v.length) (hl : l.length ≤ 1000000000) (hv : v.length ≤ 1000000000)
    {vb voff vc : Nat} (hvb : γ id ≠ some vb) (hvs : ∀ j y, (v.map (Value.int .u16))[j]? = some y → W.cell? ⟨vb, voff + j, none⟩ = some y) :
    Calls Tryz.prog 180 #[.slice ((γ id).map fun g => ⟨g, 0, none⟩) l.length (κ id), .int .i64 i, .slice (some ⟨vb, voff, none⟩) v.length vc] W fun e W' => ∃ x γ' κ', e = .returned x ∧
      Conc C ⟨s.env, s.hp.set id ⟨55, 1, (l.take i ++ v ++ l.drop i).map (cK .u16)⟩⟩ γ' κ' a W' ∧ RepA (St.mm ⟨s.env, s.hp.set id ⟨55, 1, (l.take i ++ v ++ l.drop i).map (cK .u16)⟩⟩ C γ' κ' W') (.os id (l.length + v.length)) x := by
  have hid : id < s.hp.length := (List.getElem?_eq_some_iff.1 hb).1
  obtain ⟨g, sp, hg, hmem, hcap⟩ := ownU hC hb (fun e => by rw [e] at hi; simp at hi)
  have hmax := (hC.blk id _ hb).capm
  have hmax' : κ id ≤ maxLen := hmax
  have hc63 : κ id ≤ 9223372036854775807 := by unfold maxLen at hmax'; omega
  rw [hg]
  have hcell : ∀ j, W.cell? ⟨g, j, none⟩ = (l.map (Value.int .u16) ++ sp)[j]? := fun j => by rw [qac hmem]; simp
  have hcs : ∀ j y, (l.map (Value.int .u16))[j]? = some y → W.cell? ⟨g, j, none⟩ = some y := fun j y hy => by
    rw [hcell, List.getElem?_append_left (List.getElem?_eq_some_iff.1 hy).1]; exact hy
  have h1c : ∀ u : List Int, ∀ y ∈ u.map (Value.int .u16), y.oneCell' = true := by
    intro u y hy
    obtain ⟨z, _, rfl⟩ := List.mem_map.1 hy
    rfl
  have hnew : ((l.take i ++ v ++ l.drop i).map (cK .u16)).length = l.length + v.length := by
    simp only [List.length_map, List.length_append, List.length_take, List.length_drop]; omega
  have hrep : All2 (RepA (s.mm C γ κ W)) ((l.take i ++ v ++ l.drop i).map (cK .u16)).flatten ((l.take i ++ v ++ l.drop i).map (Value.int .u16)) := qfr _ _
  have hos : ∀ {γ' : Nat → Option Nat} {κ' : Nat → Nat} {W' : World} {g' k' : Nat}, γ' id = some g' → κ' id = k' → RepA (St.mm ⟨s.env, s.hp.set id ⟨55, 1, (l.take i ++ v ++ l.drop i).map (cK .u16)⟩⟩ C γ' κ' W') (.os id (l.length + v.length)) (.slice (some ⟨g', 0, none⟩) (l.length + v.length) k') := by
    intro γ' κ' W' g' k' h1 h2
    refine .os id _ ⟨55, 1, (l.take i ++ v ++ l.drop i).map (cK .u16)⟩ _ _ _ (List.getElem?_set_self hid) (Nat.le_of_eq hnew.symm) fun _ => ⟨?_, rfl, h2.symm⟩
    show _ = (γ' id).map _
    rw [h1]; rfl
  by_cases hroom : l.length + v.length ≤ κ id
  · refine (qgx g l.length (κ id) i vb voff v.length vc _ _ W hi hm hroom hc63 (fun e => hvb (by rw [hg, e])) (by simp) (by simp) hcs (fun j hj => by rw [hcell, List.getElem?_eq_getElem (by simp only [List.length_append, List.length_map]; omega)]; rfl) (fun j => qa3 hmem j) hvs (h1c l) (h1c v)).mono ?_
    rintro e W' ⟨rfl, rfl⟩
    have h1 := ql ((l.map (Value.int .u16)).drop i) (i + v.length) W.drew _ hmem (by simp only [List.length_append, List.length_map, List.length_drop]; omega)
    have h2 := ql (v.map (Value.int .u16)) i _ _ h1 (by simp only [List.length_append, List.length_map, List.length_drop, List.length_take]; omega)
    rw [show (v.map (Value.int .u16)).length = v.length by simp] at h2
    rw [splice2 (l.map (Value.int .u16)) sp (v.map (Value.int .u16)) i v.length (by simp; omega) (by simp) (by omega)] at h2
    have e2 : (l.map (Value.int .u16)).take i ++ v.map (Value.int .u16) ++ (l.map (Value.int .u16)).drop i = (l.take i ++ v ++ l.drop i).map (Value.int .u16) := by simp
    rw [e2] at h2
    have hs1 := qh g ((l.map (Value.int .u16)).drop i) (i + v.length) W.drew
    have hs2 := qh g (v.map (Value.int .u16)) i (W.drew.setCells g (i + v.length) ((l.map (Value.int .u16)).drop i))
    obtain ⟨γ', κ', k1, k2, k3⟩ := hC.swap (b := ⟨55, 1, l.map (cK .u16)⟩) hb (g' := g) (k' := κ id) (rows' := (l.take i ++ v ++ l.drop i).map (cK .u16)) h2
      (fun x hx _ => (qj g x hx _ _ _).trans (qj g x hx _ _ _)) (by rw [hs2.2.2.2, hs1.2.2.2]; exact Nat.le_refl _) (hs2.1.trans hs1.1) (hs2.2.1.trans hs1.2.1) (hs2.2.2.1.trans hs1.2.2.1) (.inl hg)
      (fun _ => ⟨hg, rfl⟩) (by rw [hnew]; simp) (qcy _) (qb1 _) (by rw [hnew]; exact hroom) hmax' (by simp only [List.length_append, List.length_map, List.length_drop, List.length_take]; show _ = κ id * 1; omega) hrep
    exact ⟨_, γ', κ', rfl, k1, hos k2 k3⟩
  · refine (qh6 g l.length (κ id) i vb voff v.length vc _ _ W hi hm (by omega) (by omega) (by omega) (by omega) (by simp) (by simp) hcs hvs (h1c l) (h1c v)).mono ?_
    rintro e W' ⟨rfl, rfl⟩
    have hge := grownCap_ge W (l.length + v.length) (κ id) 55
    have hcm := grownCap_le_maxLen W (l.length + v.length) (κ id) 55 (by unfold maxLen; omega)
    generalize grownCap W (l.length + v.length) (κ id) 55 = G at hge hcm ⊢
    have h0 : (((W.alloc (.cells (((l.map (Value.int .u16)).take i).toArray ++ Builtin.zeroCells (Value.int .u16 0).cells (l.length + v.length - i) ++ Builtin.zeroCells (Value.int .u16 0).cells (G - (l.length + v.length))) 55)).drew).heap[W.heap.size]?) = some (.cells (((l.map (Value.int .u16)).take i ++ (Builtin.zeroCells (Value.int .u16 0).cells (l.length + v.length - i) ++ Builtin.zeroCells (Value.int .u16 0).cells (G - (l.length + v.length))).toList).toArray) 55 (0, 0)) := by
      have := qv W (.cells (((l.map (Value.int .u16)).take i).toArray ++ Builtin.zeroCells (Value.int .u16 0).cells (l.length + v.length - i) ++ Builtin.zeroCells (Value.int .u16 0).cells (G - (l.length + v.length))) 55 (0, 0))
      refine Eq.trans this ?_
      congr 2
      apply Array.toList_inj.1; simp
    have hzl : (Builtin.zeroCells (Value.int .u16 0).cells (l.length + v.length - i) ++ Builtin.zeroCells (Value.int .u16 0).cells (G - (l.length + v.length))).toList.length = G - i := by
      simp [size_zeroCells, Value.cells]; omega
    generalize (Builtin.zeroCells (Value.int .u16 0).cells (l.length + v.length - i) ++ Builtin.zeroCells (Value.int .u16 0).cells (G - (l.length + v.length))).toList = zs at h0 hzl
    have hA1 : ∀ x, x < W.heap.size → ((W.alloc (.cells (((l.map (Value.int .u16)).take i).toArray ++ Builtin.zeroCells (Value.int .u16 0).cells (l.length + v.length - i) ++ Builtin.zeroCells (Value.int .u16 0).cells (G - (l.length + v.length))) 55)).drew).heap[x]? = W.heap[x]? := fun x hx => Below.heap_alloc W _ x hx
    have hA2 : ((W.alloc (.cells (((l.map (Value.int .u16)).take i).toArray ++ Builtin.zeroCells (Value.int .u16 0).cells (l.length + v.length - i) ++ Builtin.zeroCells (Value.int .u16 0).cells (G - (l.length + v.length))) 55)).drew).heap.size = W.heap.size + 1 := by
      show (W.heap.push _).size = _
      simp
    have hA3 : ((W.alloc (.cells (((l.map (Value.int .u16)).take i).toArray ++ Builtin.zeroCells (Value.int .u16 0).cells (l.length + v.length - i) ++ Builtin.zeroCells (Value.int .u16 0).cells (G - (l.length + v.length))) 55)).drew).os = W.os ∧ ((W.alloc (.cells (((l.map (Value.int .u16)).take i).toArray ++ Builtin.zeroCells (Value.int .u16 0).cells (l.length + v.length - i) ++ Builtin.zeroCells (Value.int .u16 0).cells (G - (l.length + v.length))) 55)).drew).tape = W.tape ∧ ((W.alloc (.cells (((l.map (Value.int .u16)).take i).toArray ++ Builtin.zeroCells (Value.int .u16 0).cells (l.length + v.length - i) ++ Builtin.zeroCells (Value.int .u16 0).cells (G - (l.length + v.length))) 55)).drew).output = W.output := ⟨rfl, rfl, rfl⟩
    have hzz : zs.length = G - i := hzl
    generalize (W.alloc (.cells (((l.map (Value.int .u16)).take i).toArray ++ Builtin.zeroCells (Value.int .u16 0).cells (l.length + v.length - i) ++ Builtin.zeroCells (Value.int .u16 0).cells (G - (l.length + v.length))) 55)).drew = WA at h0 hA1 hA2 hA3 ⊢
    have h1 := ql (v.map (Value.int .u16)) i WA _ h0 (by simp only [List.length_append, List.length_map, List.length_take]; omega)
    have hs1 := qh W.heap.size (v.map (Value.int .u16)) i WA
    have hf1 := fun x hx => qj W.heap.size x hx (v.map (Value.int .u16)) i WA
    have hB : (WA.setCells W.heap.size i (v.map (Value.int .u16))).drew.heap = (WA.setCells W.heap.size i (v.map (Value.int .u16))).heap ∧ (WA.setCells W.heap.size i (v.map (Value.int .u16))).drew.os = (WA.setCells W.heap.size i (v.map (Value.int .u16))).os ∧ (WA.setCells W.heap.size i (v.map (Value.int .u16))).drew.tape = (WA.setCells W.heap.size i (v.map (Value.int .u16))).tape ∧ (WA.setCells W.heap.size i (v.map (Value.int .u16))).drew.output = (WA.setCells W.heap.size i (v.map (Value.int .u16))).output := ⟨rfl, rfl, rfl, rfl⟩
    generalize (WA.setCells W.heap.size i (v.map (Value.int .u16))).drew = WB at hB ⊢
    generalize WA.setCells W.heap.size i (v.map (Value.int .u16)) = WB' at hB h1 hs1 hf1
    rw [← hB.1] at h1
    have h2 := ql ((l.map (Value.int .u16)).drop i) (i + v.length) WB _ h1 (by simp only [List.length_append, List.length_map, List.length_take, List.length_drop]; omega)
    rw [show (v.map (Value.int .u16)).length = v.length by simp] at h2
    rw [splice3 (l.map (Value.int .u16)) zs (v.map (Value.int .u16)) i v.length (by simp; omega) (by simp) (by simp; omega)] at h2
    have e2 : (l.map (Value.int .u16)).take i ++ v.map (Value.int .u16) ++ (l.map (Value.int .u16)).drop i = (l.take i ++ v ++ l.drop i).map (Value.int .u16) := by simp
    rw [e2] at h2
    have hs2 := qh W.heap.size ((l.map (Value.int .u16)).drop i) (i + v.length) WB
    have hf2 := fun x hx => qj W.heap.size x hx ((l.map (Value.int .u16)).drop i) (i + v.length) WB
    obtain ⟨γ', κ', k1, k2, k3⟩ := hC.swap (b := ⟨55, 1, l.map (cK .u16)⟩) hb (g' := W.heap.size) (k' := G) (rows' := (l.take i ++ v ++ l.drop i).map (cK .u16)) h2
      (fun x hx hlt => (hf2 x hx).trans ((by rw [hB.1]; exact hf1 x hx : WB.heap[x]? = WA.heap[x]?).trans (hA1 x hlt))) (by rw [hs2.2.2.2, hB.1, hs1.2.2.2, hA2]; omega) (hs2.1.trans (hB.2.1.trans (hs1.1.trans hA3.1))) (hs2.2.1.trans (hB.2.2.1.trans (hs1.2.1.trans hA3.2.1))) (hs2.2.2.1.trans (hB.2.2.2.trans (hs1.2.2.1.trans hA3.2.2))) (.inr (Nat.le_refl _))
      (fun e => by have e' : (l.map (cK .u16)).length = _ := e; rw [hnew, List.length_map] at e'; omega) (by rw [hnew]; simp) (qcy _) (qb1 _) (by rw [hnew]; exact hge) hcm (by simp only [List.length_append, List.length_map, List.length_drop, List.length_take, hzz]; show _ = G * 1; omega) hrep
    exact ⟨_, γ', κ', rfl, k1, hos k2 k3⟩
theorem coreRepU {C : Cx} {s : St} {γ : Nat → Option Nat} {κ : Nat → Nat} {a : Act} {W : World} (hC : Conc C s γ κ a W) {id : Nat} {l v : List Int} (hb : s.hp[id]? = some ⟨55, 1, l.map (cK .u16)⟩) {i : Nat} (hi : i < l.length) (hl : l.length ≤ 1000000000) (hv : v.length ≤ 1000000000)
    {vA : Option Addr} {vc : Nat} (hsrc : Src Tryz.prog 1 35 (.slice vA v.length vc) v.length (v.map (Value.int .u16)) W) :
    Calls Tryz.prog 155 #[.slice ((γ id).map fun g => ⟨g, 0, none⟩) l.length (κ id), .int .i64 i, .int .i64 l.length, .slice vA v.length vc] W fun e W' => ∃ x γ' κ', e = .returned x ∧
      Conc C ⟨s.env, s.hp.set id ⟨55, 1, (repL l v i).map (cK .u16)⟩⟩ γ' κ' a W' ∧ RepA (St.mm ⟨s.env, s.hp.set id ⟨55, 1, (repL l v i).map (cK .u16)⟩⟩ C γ' κ' W') (.sub id (repL l v i).length 0 (i + v.length)) x := by
  have hid : id < s.hp.length := (List.getElem?_eq_some_iff.1 hb).1
  obtain ⟨g, sp, hg, hmem, hcap⟩ := ownU hC hb (fun e => by rw [e] at hi; simp at hi)
  have hmax' : κ id ≤ maxLen := (hC.blk id _ hb).capm
  have hc63 : κ id ≤ 9223372036854775807 := by unfold maxLen at hmax'; omega
  rw [hg]
  have hcell : ∀ j, W.cell? ⟨g, j, none⟩ = (l.map (Value.int .u16) ++ sp)[j]? := fun j => by rw [qac hmem]; simp
  have hcs : ∀ j y, (l.map (Value.int .u16))[j]? = some y → W.cell? ⟨g, j, none⟩ = some y := fun j y hy => by
    rw [hcell, List.getElem?_append_left (List.getElem?_eq_some_iff.1 hy).1]; exact hy
  have hrl : (repL l v i).length = i + v.length + (l.length - (i + v.length)) := by
    unfold repL
    simp only [List.length_append, List.length_take, List.length_replicate]; omega
  have hnew : ((repL l v i).map (cK .u16)).length = (repL l v i).length := List.length_map _
  have hrep : All2 (RepA (s.mm C γ κ W)) ((repL l v i).map (cK .u16)).flatten ((repL l v i).map (Value.int .u16)) := qfr _ _
  have e2 : (l.map (Value.int .u16)).take i ++ v.map (Value.int .u16) ++ List.replicate (l.length - (i + v.length)) (Value.int .u16 0) = (repL l v i).map (Value.int .u16) := by
    unfold repL; simp
  have hsub : ∀ {γ' : Nat → Option Nat} {κ' : Nat → Nat} {W' : World} {g' k' : Nat}, γ' id = some g' → i + v.length ≤ k' → RepA (St.mm ⟨s.env, s.hp.set id ⟨55, 1, (repL l v i).map (cK .u16)⟩⟩ C γ' κ' W') (.sub id (repL l v i).length 0 (i + v.length)) (.slice (some ⟨g', 0, none⟩) (i + v.length) k') := by
    intro γ' κ' W' g' k' h1 h2
    refine .sub id _ 0 _ ⟨55, 1, (repL l v i).map (cK .u16)⟩ _ _ (List.getElem?_set_self hid) (Nat.le_of_eq hnew.symm) (fun _ => ⟨by omega, fun _ => ⟨g', h1, by simp⟩⟩) h2
  by_cases hroom : i + v.length ≤ κ id
  · refine (qef g l.length (κ id) i v.length vc vA _ W hi (by omega) hroom hc63 (by simp) (fun j hj => by rw [hcell, List.getElem?_eq_getElem (by simp only [List.length_append, List.length_map]; omega)]; rfl) (fun j => qa3 hmem j) hsrc).mono ?_
    rintro e W' ⟨rfl, rfl⟩
    have h1 := ql (v.map (Value.int .u16)) i W _ hmem (by simp only [List.length_append, List.length_map]; omega)
    have h2 := ql (List.replicate (l.length - (i + v.length)) (Value.int .u16 0)) (i + v.length) _ _ h1 (by simp only [List.length_append, List.length_map, List.length_take, List.length_drop, List.length_replicate]; omega)
    rw [show (v.map (Value.int .u16)).length = v.length by simp] at h2
    rw [splice4 (l.map (Value.int .u16)) sp (v.map (Value.int .u16)) (List.replicate (l.length - (i + v.length)) (Value.int .u16 0)) i v.length (by simp; omega) (by simp)] at h2
    rw [e2] at h2
    have hs1 := qh g (v.map (Value.int .u16)) i W
    have hs2 := qh g (List.replicate (l.length - (i + v.length)) (Value.int .u16 0)) (i + v.length) (W.setCells g i (v.map (Value.int .u16)))
    obtain ⟨γ', κ', k1, k2, k3⟩ := hC.swap (b := ⟨55, 1, l.map (cK .u16)⟩) hb (g' := g) (k' := κ id) (rows' := (repL l v i).map (cK .u16)) h2
      (fun x hx _ => (qj g x hx _ _ _).trans (qj g x hx _ _ _)) (by rw [hs2.2.2.2, hs1.2.2.2]; exact Nat.le_refl _) (hs2.1.trans hs1.1) (hs2.2.1.trans hs1.2.1) (hs2.2.2.1.trans hs1.2.2.1) (.inl hg)
      (fun _ => ⟨hg, rfl⟩) (by rw [hnew, hrl, List.length_map]; omega) (qcy _) (qb1 _) (by rw [hnew, hrl]; omega) hmax' (by simp only [List.length_append, List.length_map, List.length_drop, List.length_replicate, hrl]; show _ = κ id * 1; omega) hrep
    exact ⟨_, γ', κ', rfl, k1, hsub k2 hroom⟩
  · refine (qeg g l.length (κ id) i v.length vc vA _ _ W hi (by omega) (by omega) (by omega) (by omega) (by simp) (by simp) hcs hsrc).mono ?_
    rintro e W' ⟨rfl, rfl⟩
    have hz : l.length - (i + v.length) = 0 := by omega
    rw [hz, List.replicate_zero, List.append_nil] at e2
    have hge := grownCap_ge W (i + v.length) (κ id) 55
    have hcm := grownCap_le_maxLen W (i + v.length) (κ id) 55 (by unfold maxLen; omega)
    generalize grownCap W (i + v.length) (κ id) 55 = G at hge hcm ⊢
    have h2 := qv W.drew (.cells (((l.map (Value.int .u16)).take i ++ v.map (Value.int .u16)).toArray ++ Builtin.zeroCells (Value.int .u16 0).cells (G - (i + v.length))) 55 (0, 0))
    rw [show ((l.map (Value.int .u16)).take i ++ v.map (Value.int .u16)).toArray ++ Builtin.zeroCells (Value.int .u16 0).cells (G - (i + v.length)) = ((repL l v i).map (Value.int .u16) ++ (Builtin.zeroCells (Value.int .u16 0).cells (G - (i + v.length))).toList).toArray from by
      rw [← e2]; apply Array.toList_inj.1; simp] at h2
    obtain ⟨γ', κ', k1, k2, k3⟩ := hC.swap (b := ⟨55, 1, l.map (cK .u16)⟩) hb (g' := W.heap.size) (k' := G) (rows' := (repL l v i).map (cK .u16)) (W' := W.drew.alloc (.cells (((l.map (Value.int .u16)).take i ++ v.map (Value.int .u16)).toArray ++ Builtin.zeroCells (Value.int .u16 0).cells (G - (i + v.length))) 55)) (by
        rw [show ((l.map (Value.int .u16)).take i ++ v.map (Value.int .u16)).toArray ++ Builtin.zeroCells (Value.int .u16 0).cells (G - (i + v.length)) = ((repL l v i).map (Value.int .u16) ++ (Builtin.zeroCells (Value.int .u16 0).cells (G - (i + v.length))).toList).toArray from by
          rw [← e2]; apply Array.toList_inj.1; simp]
        exact h2)
      (fun x hx hlt => Below.heap_alloc W.drew _ x hlt) (by show _ ≤ (W.heap.push _).size; simp) rfl rfl rfl (.inr (Nat.le_refl _))
      (fun e => by have e' : (l.map (cK .u16)).length = _ := e; rw [hnew, hrl, List.length_map] at e'; omega) (by rw [hnew, hrl, List.length_map]; omega) (qcy _) (qb1 _) (by rw [hnew, hrl]; omega) hcm (by simp only [List.length_append, List.length_map, hrl, Array.length_toList, size_zeroCells, Value.cells]; show _ = G * 1; simp; omega) hrep
    exact ⟨_, γ', κ', rfl, k1, hsub k2 hge⟩
open Go.RowKit
set_option maxRecDepth 100000
set_option maxHeartbeats 4000000
theorem call155 : Callable Tryz.prog 155 := fun vs w => by
  unfold callFunc
  have hp : (program).run Tryz.prog w = .ok Tryz.prog w := rfl
  rw [run_bind hp, Tryz.func155]
  rfl
theorem qol {M : Mm} {v : List Int} {x : Value} {W : World} (hW : M.W = W) (h : RepA M (.imm (.sl (v.map u16))) x) : ∃ vA vc, x = .slice vA v.length vc ∧ Src Tryz.prog 1 35 (.slice vA v.length vc) v.length (v.map (Value.int .u16)) W := by
  subst hW
  have d1 : Tryz.prog.underlying 35 = some (.slice 55) := Tryz.underlying35
  cases h with
  | imm _ _ h =>
    generalize hr : v.map u16 = rows at h
    cases h with
    | nil A c =>
      have hv : v = [] := List.map_eq_nil_iff.1 hr
      subst hv
      refine ⟨A, c, rfl, ?_⟩
      cases A with
      | none => exact Src.ofNil _ d1 c
      | some ad => exact Src.ofSlice _ d1 ad 0 c [] (by simp) (by simp) (by simp)
    | sl _ ad n c sz ys g0 hsz hn hc hb hrl hyc hrep =>
      subst hr
      have hlen : n = v.length := by rw [hn, List.length_map]
      subst hlen
      have e : ys = v.map (Value.int .u16) := by
        have key : ∀ {l : List Int} {zs : List Value}, All2 (RepI M.W M.N) (l.map u16).flatten zs → zs = l.map (Value.int .u16) := by
          intro l
          induction l with
          | nil => intro zs h; cases h; rfl
          | cons a l ih =>
            intro zs h
            cases h with
            | cons h1 h2 => rw [h1.int_inv, ih h2]; rfl
        exact key hrep
      subst e
      refine ⟨some ad, c, rfl, Src.ofSlice _ d1 ad _ c _ (by simp) hyc (fun u hu => ?_)⟩
      obtain ⟨z, _, rfl⟩ := List.mem_map.1 hu
      rfl
theorem qom (l v : List Int) (i : Int) (h0 : 0 ≤ i) (h1 : i < l.length) (hl : l.length ≤ 1000000000) (hv : v.length ≤ 1000000000) : GenC Tryz.prog 155 [⟨55, 1, l.map cU⟩] [.os 0 l.length, iav i, iav l.length, .imm (.sl (v.map u16))] (.sub 0 (repL l v i.toNat).length 0 (i.toNat + v.length)) [⟨55, 1, (repL l v i.toNat).map cU⟩] := by
  refine ⟨call155, fun W X γ κ xs hC hargs => ?_⟩
  obtain ⟨k, rfl⟩ : ∃ k : Nat, i = k := ⟨i.toNat, by omega⟩
  have hk : k < l.length := by omega
  cases hargs with
  | cons a0 t =>
    cases t with
    | cons a1 t =>
      cases t with
      | cons a2 t =>
        cases t with
        | cons a3 t =>
          cases t
          have e0 := a0.os_val (b := ⟨55, 1, l.map cU⟩) rfl (by simp)
          have e1 := qca a1
          have e2 := qca a2
          obtain ⟨vA, vc, e3, hsrc⟩ := qol rfl a3
          subst e0 e1 e2 e3
          exact coreRepU hC (id := 0) (l := l) (v := v) (i := k) rfl hk hl hv hsrc
theorem at_g (f : List Node) (p : Int) (d : List Int) (hf : Fit f) (hp : 0 ≤ p) (hp1 : p < f.length) : GenC Tryz.prog 145 [⟨44, 16, rowsD f p (.os 1 d.length)⟩, ⟨55, 1, d.map cU⟩] [.agg [.os 0 f.length], iav (p + 1)] (.tup [.agg (nodeRowD (atI f p) (.os 1 d.length)), bav true]) [⟨44, 16, rowsD f p (.os 1 d.length)⟩, ⟨55, 1, d.map cU⟩] := by
  have hl := hf.len
  have hR := qa7 f p (.os 1 d.length)
  have hsc : (rowsD f p (.os 1 d.length)).all (fun r => r.all (AV.sc1 2)) = true := qab f _ _ 2 rfl
  have hat : atI (rowsD f p (.os 1 d.length)) (p + 1 - 1) = nodeRowD (atI f p) (.os 1 d.length) := by
    rw [show p + 1 - 1 = p by omega, qch f _ _ (by omega) (by omega) _ (by omega) (by omega), if_pos rfl]
  have gat := qav (by omega) (by omega) hat
  refine yaj tabs Tryz.func145 22 [.cell 4 44, .tmp 5] rfl rfl rfl rfl rfl ?_; intro w0 X γ κ
  (repeat' (first | ((with_reducible show AL _ _ _ _ _); first | (refine AL.step tabs rfl ?_; try dsimp only [len, List.nil_append, List.cons_append]) | refine yad rfl (yau (b := ⟨44, 16, rowsD f p (.os 1 d.length)⟩) tabs rfl rfl rfl rfl rfl rfl hR.symm) rfl ?_ | (refine AL.op rfl (yi rfl rfl rfl rfl rfl (by omega) (by omega)) ?_) | refine yad rfl (yan (b := ⟨44, 16, rowsD f p (.os 1 d.length)⟩) tabs rfl rfl rfl rfl rfl rfl rfl rfl hR.symm rfl (by omega) (by omega)) rfl ?_ | refine yad rfl (ya2 (i := ti44) (r := nodeRowD (atI f p) (.os 1 d.length)) (b := ⟨44, 16, rowsD f p (.os 1 d.length)⟩) (row := (p + 1 - 1).toNat) tabs rfl rfl rfl rfl rfl hR.symm gat rfl) rfl ?_ | refine ym ?_ | (refine yj rfl rfl rfl (fun hc => ?_) (fun hc => ?_) <;> (fail_if_success (exact absurd hc (by decide))) <;> (try simp only [hsx] at hc) <;> (try first | omega | contradiction | (simp [qa] at hc; done))) | (refine AL.op rfl (yi rfl rfl rfl rfl rfl (by omega) (by omega)) ?_) | (refine AL.op rfl (ye tabs rfl rfl rfl rfl rfl rfl rfl (fun _ => rfl) (by decide) (by omega) (by omega)) ?_)) | refine yn ?_ | refine yc ?_ | refine ya ?_ | refine yf ?_ | refine yh rfl ?_ | refine yg rfl ?_ | (refine yk rfl (fun hc => ?_) (fun hc => ?_) <;> (try simp only [hsx] at hc) <;> (try first | omega | contradiction | (simp [qa] at hc; done))) | refine yo ?_ | refine yd ?_))
  all_goals first
    | (exfalso; omega)
    | (refine yam 2 rfl rfl rfl rfl ?_ (by simp [cxG])
       simp only [qax]
       exact ⟨hsc, (by simp only [List.all_cons, List.all_nil, List.all_map, Function.comp_def, cI, cB, cU, iav, bav, AV.sc1, AV.sc0, Bool.and_true, Bool.and_self, qf]; try rfl)⟩)
theorem qbp (ρ : Nat → Nat) (ty sz : Nat) (l : List Int) : renB ρ ⟨ty, sz, l.map cU⟩ = ⟨ty, sz, l.map cU⟩ := by
  unfold renB
  congr 1
  simp [cU, ren1, ren0]
theorem qar (ρ : Nat → Nat) (f : List Node) (p : Int) (k : AV) : renB ρ ⟨44, 16, rowsD f p k⟩ = ⟨44, 16, rowsD f p (ren1 ρ k)⟩ := by
  unfold renB rowsD
  congr 1
  rw [List.map_set, List.map_map]
  congr 1
theorem qnl (f : List Node) (c : Change) (all : List Int) (m : Nat) (hf : Fit f) (h1 : 1 ≤ c.node) (h2 : c.node ≤ f.length) (hd : (traitsOf (atI f (c.node - 1)).kind).data = true)
    (ho0 : 0 ≤ c.offset) (hc0 : 0 ≤ c.count) (hoc : c.offset + c.count ≤ (atI f (c.node - 1)).data.length)
    (hrep : GenC Tryz.prog 155 [⟨55, 1, (atI f (c.node - 1)).data.map cU⟩] [.os 0 (atI f (c.node - 1)).data.length, iav c.offset, iav (c.offset + c.count), .imm (.sl (c.data.map u16))] (.sub 0 all.length 0 m) [⟨55, 1, all.map cU⟩]) :
    GenC Tryz.prog 120 [⟨24, 1, [[.os 1 f.length]]⟩, ⟨44, 16, rowsD f (c.node - 1) (.os 2 (atI f (c.node - 1)).data.length)⟩, ⟨55, 1, (atI f (c.node - 1)).data.map cU⟩] [.ptr 0 1 0 0, c.av] (bav true)
      [⟨24, 1, [[.os 1 f.length]]⟩, ⟨44, 16, rowsD f (c.node - 1) (.sub 2 all.length 0 m)⟩, ⟨55, 1, all.map cU⟩] := by
  have hl := hf.len
  obtain ⟨nd, hnd⟩ : ∃ nd, nd = atI f (c.node - 1) := ⟨_, rfl⟩
  have hfn : nd.data.length ≤ 1000000000 := by rw [hnd]; exact (hf.atI (c.node - 1) (by omega) (by omega)).data
  have hR := qa7 f (c.node - 1) (.os 2 nd.data.length)
  have hat := at_g f (c.node - 1) nd.data hf (by omega) (by omega)
  rw [show c.node - 1 + 1 = c.node by omega, ← hnd] at hat
  have hpar : atI (rowsD f (c.node - 1) (.os 2 nd.data.length)) (c.node - 1) = nodeRowD nd (.os 2 nd.data.length) := by
    rw [qch f _ _ (by omega) (by omega) _ (by omega) (by omega), if_pos rfl, hnd]
  have gpar := qav (by omega) (by omega) hpar
  rw [← hnd] at hd hoc hrep ⊢
  have hset : (rowsD f (c.node - 1) (.os 2 nd.data.length)).set (c.node - 1).toNat (nodeRowD nd (.sub 2 all.length 0 m)) = rowsD f (c.node - 1) (.sub 2 all.length 0 m) := by
    unfold rowsD
    rw [List.set_set, hnd]
  have hsc : ∀ k, 3 ≤ k → (rowsD f (c.node - 1) (.os 2 nd.data.length)).all (fun r => r.all (AV.sc1 k)) = true := fun k hk => qab f _ _ k (by simp only [AV.sc1, AV.sc0, Nat.blt_eq]; omega)
  refine yaj tabs Tryz.func120 75 [.tmp 4] rfl rfl rfl rfl rfl ?_; intro w0 X γ κ
  refine AW.reserve 44 16 rfl ?_
  (repeat' (first | ((with_reducible show AL _ _ _ _ _); first | (refine AL.step tabs rfl ?_; try dsimp only [len, List.nil_append, List.cons_append]) | refine AL.op rfl (yb rfl rfl rfl rfl (qdi nd.kind) rfl) ?_ | refine yad rfl (yau (b := ⟨55, 1, nd.data.map cU⟩) tabs rfl rfl rfl rfl rfl rfl (by simp)) rfl ?_ | refine ym ?_ | (refine yj rfl rfl rfl (fun hc => ?_) (fun hc => ?_) <;> (fail_if_success (exact absurd hc (by decide))) <;> (try simp only [hsx] at hc) <;> (try first | omega | contradiction | (simp [qa] at hc; done))) | (refine AL.op rfl (yi rfl rfl rfl rfl rfl (by omega) (by omega)) ?_) | (refine AL.op rfl (ye tabs rfl rfl rfl rfl rfl rfl rfl (fun _ => rfl) (by decide) (by omega) (by omega)) ?_)) | ((with_reducible show DQ _ _ _ _ _ _); first | refine DQ.stepc (LS.alloc 3 tabs rfl rfl rfl rfl rfl rfl) rfl rfl rfl rfl rfl ?_ | refine DQ.stepc (LS.store (i := ti44) (v := .agg (nodeRowD nd (.os 2 nd.data.length))) (ty := 44) (sz := 16) (rows := [ti44.zero]) (r := ti44.zero) tabs rfl rfl rfl rfl rfl rfl rfl rfl rfl rfl (Nat.le_of_ble_eq_true rfl) rfl) rfl rfl rfl rfl rfl ?_ | refine DQ.stepc (yaq (b := ⟨44, 16, rowsD f (c.node - 1) (.os 2 nd.data.length)⟩) tabs rfl rfl rfl rfl rfl rfl rfl rfl rfl hR.symm rfl (by omega) (by omega)) rfl rfl rfl rfl rfl ?_ | refine DQ.stepc (yaw (b := ⟨44, 16, rowsD f (c.node - 1) (.os 2 nd.data.length)⟩) tabs rfl rfl rfl rfl rfl rfl rfl rfl rfl hR.symm) rfl rfl rfl rfl rfl ?_ | refine DQ.stepc (LS.store (i := ti36) (v := .sub 2 all.length 0 m) (ty := 44) (sz := 16) (rows := rowsD f (c.node - 1) (.os 2 nd.data.length)) (r := nodeRowD nd (.os 2 nd.data.length)) tabs rfl rfl rfl rfl rfl rfl rfl hR.symm rfl rfl (by decide) gpar) rfl rfl rfl rfl rfl ?_ | refine DQ.stepc (LS.val tabs rfl rfl rfl) rfl rfl rfl rfl rfl ?_ | refine DQ.stepc (yab rfl rfl) rfl rfl rfl rfl rfl ?_ | refine DQ.nilM (by kernel_rfl) ?_ | refine DQ.stepc (yaf rfl rfl rfl rfl rfl rfl (by omega) (by omega)) rfl rfl rfl rfl rfl ?_ | refine DQ.stepc (yaa tabs rfl rfl rfl rfl rfl rfl rfl rfl (fun _ => rfl) (by decide) (by omega) (by omega)) rfl rfl rfl rfl rfl ?_ | (refine DQ.gsplitE rfl rfl rfl (fun hc => ?_) (fun hc => ?_) <;> (fail_if_success (exact absurd hc (by decide))) <;> (try simp only [hsx] at hc) <;> (try first | omega | contradiction | (simp [qa] at hc; done)))) | ((with_reducible show M2.DQ _ _ _ _ _ _); first | refine M2.DQ.step2 (M2.LS.callG [1, 2] (caps := []) rfl rfl rfl rfl rfl hat (fun _ => rfl) (bs := [⟨44, 16, rowsD f (c.node - 1) (.os 2 nd.data.length)⟩, ⟨55, 1, nd.data.map cU⟩]) rfl (fun n => by simp only [List.map_cons, List.map_nil, qar, qbp]; rfl) rfl rfl (by simp only [qax]; exact ⟨qab _ _ _ _ rfl, (by simp only [List.all_cons, List.all_nil, List.all_map, Function.comp_def, cI, cB, cU, iav, bav, AV.sc1, AV.sc0, Bool.and_true, Bool.and_self, qf]; try rfl)⟩) rfl (by simp only [qax]; exact ⟨qab _ _ _ _ rfl, (by simp only [List.all_cons, List.all_nil, List.all_map, Function.comp_def, cI, cB, cU, iav, bav, AV.sc1, AV.sc0, Bool.and_true, Bool.and_self, qf]; try rfl)⟩) rfl (hpA := [⟨44, 16, rowsD f (c.node - 1) (.os 2 nd.data.length)⟩, ⟨55, 1, nd.data.map cU⟩]) (fun n => by simp only [List.map_cons, List.map_nil, qar, qbp]; rfl) (r' := .tup [.agg (nodeRowD nd (.os 2 nd.data.length)), bav true]) (fun _ => rfl)) rfl rfl rfl rfl rfl ?_ | refine M2.DQ.step2 (M2.LS.callG [2] (caps := []) rfl rfl rfl rfl rfl hrep (fun _ => rfl) (bs := [⟨55, 1, nd.data.map cU⟩]) rfl (fun n => by simp only [List.map_cons, List.map_nil, qbp]) rfl rfl (by simp only [List.all_cons, List.all_nil, List.all_map, Function.comp_def, cI, cB, cU, iav, bav, AV.sc1, AV.sc0, Bool.and_true, Bool.and_self, qf]; try rfl) rfl (by simp only [List.all_cons, List.all_nil, List.all_map, Function.comp_def, cI, cB, cU, iav, bav, AV.sc1, AV.sc0, Bool.and_true, Bool.and_self, qf]; try rfl) rfl (hpA := [⟨55, 1, all.map cU⟩]) (fun n => by simp only [List.map_cons, List.map_nil, qbp]) (r' := .sub 2 all.length 0 m) (fun _ => rfl)) rfl rfl rfl rfl rfl ?_ | refine M2.DQ.stepc (LS.alloc 3 tabs rfl rfl rfl rfl rfl rfl) rfl rfl rfl rfl rfl ?_ | refine M2.DQ.stepc (LS.store (i := ti44) (v := .agg (nodeRowD nd (.os 2 nd.data.length))) (ty := 44) (sz := 16) (rows := [ti44.zero]) (r := ti44.zero) tabs rfl rfl rfl rfl rfl rfl rfl rfl rfl rfl (Nat.le_of_ble_eq_true rfl) rfl) rfl rfl rfl rfl rfl ?_ | refine M2.DQ.stepc (yaq (b := ⟨44, 16, rowsD f (c.node - 1) (.os 2 nd.data.length)⟩) tabs rfl rfl rfl rfl rfl rfl rfl rfl rfl hR.symm rfl (by omega) (by omega)) rfl rfl rfl rfl rfl ?_ | refine M2.DQ.stepc (yaw (b := ⟨44, 16, rowsD f (c.node - 1) (.os 2 nd.data.length)⟩) tabs rfl rfl rfl rfl rfl rfl rfl rfl rfl hR.symm) rfl rfl rfl rfl rfl ?_ | refine M2.DQ.stepc (LS.store (i := ti36) (v := .sub 2 all.length 0 m) (ty := 44) (sz := 16) (rows := rowsD f (c.node - 1) (.os 2 nd.data.length)) (r := nodeRowD nd (.os 2 nd.data.length)) tabs rfl rfl rfl rfl rfl rfl rfl hR.symm rfl rfl (by decide) gpar) rfl rfl rfl rfl rfl ?_ | refine M2.DQ.stepc (LS.val tabs rfl rfl rfl) rfl rfl rfl rfl rfl ?_ | refine M2.DQ.stepc (yab rfl rfl) rfl rfl rfl rfl rfl ?_ | refine M2.DQ.nilM (by kernel_rfl) ?_ | refine M2.DQ.stepc (yaf rfl rfl rfl rfl rfl rfl (by omega) (by omega)) rfl rfl rfl rfl rfl ?_ | refine M2.DQ.stepc (yaa tabs rfl rfl rfl rfl rfl rfl rfl rfl (fun _ => rfl) (by decide) (by omega) (by omega)) rfl rfl rfl rfl rfl ?_ | (refine M2.DQ.gsplitE rfl rfl rfl (fun hc => ?_) (fun hc => ?_) <;> (fail_if_success (exact absurd hc (by decide))) <;> (try simp only [hsx] at hc) <;> (try first | omega | contradiction | (simp [qa] at hc; done)))) | (exfalso; omega) | refine M2.drawW (id := 1) mixed (by kernel_rfl) ?_ | refine M2.drawW (id := 4) mixed (by kernel_rfl) ?_ | refine yn ?_ | refine yc ?_ | refine ya ?_ | refine yf ?_ | refine yh rfl ?_ | refine yg rfl ?_ | (refine yk rfl (fun hc => ?_) (fun hc => ?_) <;> (try simp only [hsx] at hc) <;> (try first | omega | contradiction | (simp [qa] at hc; done))) | refine yo ?_ | refine yd ?_ | refine yx mixed (by kernel_rfl) ?_))
  all_goals first
    | (exfalso; omega)
    | (refine yam 3 rfl rfl (by rw [← hset]; rfl) rfl ?_ (by simp [cxG])
       simp only [qax]
       exact ⟨rfl, qab _ _ _ _ rfl, (by simp only [List.all_cons, List.all_nil, List.all_map, Function.comp_def, cI, cB, cU, iav, bav, AV.sc1, AV.sc0, Bool.and_true, Bool.and_self, qf]; try rfl)⟩)
    | (exfalso; rw [hd] at hc; cases hc)
end Go.Proofs.YtmhejcnaanocpaaGreat.A
