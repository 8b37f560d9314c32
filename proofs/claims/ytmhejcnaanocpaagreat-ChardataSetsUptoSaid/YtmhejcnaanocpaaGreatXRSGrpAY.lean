/- Contracts on the machine itself: slices.Replace in the middle. -/
import Derived.Test.YtmhejcnaanocpaaGreatXRSGrpAT
import Derived.Test.YtmhejcnaanocpaaGreatProg
namespace Go.Proofs.YtmhejcnaanocpaaGreat.A
open Go.Shelf Go.RowKit Go.Lib
set_option linter.unusedVariables false
set_option linter.unusedSimpArgs false
def VSrc (b : Nat) (vA : Option Addr) (m : Nat) (vs : List Value) (w : World) : Prop :=
  m = 0 ∨ ∃ vb voff, vA = some ⟨vb, voff, none⟩ ∧ vb ≠ b ∧ ∀ j y, vs[j]? = some y → w.cell? ⟨vb, voff + j, none⟩ = some y
theorem copyV {b : Nat} {vA : Option Addr} {m vc : Nat} {vs : List Value} {w : World} (hV : VSrc b vA m vs w) (hvl : vs.length = m) (h1v : ∀ v ∈ vs, v.oneCell' = true) (W : World) (d o L dc : Nat) (ty : TypeId)
    (hW : ∀ vb j y, vb ≠ b → w.cell? ⟨vb, j, none⟩ = some y → W.cell? ⟨vb, j, none⟩ = some y) (hL : m ≤ L) (hsp : ∀ k, k < m → (W.cell? ⟨d, o + k, none⟩).isSome = true) (hfz : ∀ k, W.frozen? ⟨d, k, none⟩ = false) :
    (Builtin.copy_ #[36, 35] ty #[.slice (some ⟨d, o, none⟩) L dc, .slice vA m vc]).run Tryz.prog W = .ok (goInt vs.length) (W.setCells d o vs) := by
  have tS : Tryz.prog.underlying 36 = some (.slice 55) := Tryz.underlying36
  have iE : (Tryz.prog.info? 55).map (fun i => (i.zero, i.size, i.bytes)) = some (some (Value.int .u16 0), 1, 2) := by kernel_rfl
  obtain ⟨i0, hi0, hz0, hzs, hzb⟩ := info_parts iE
  have hsz : (Tryz.prog.info? 55).map (·.size) = some 1 := by rw [hi0]; simp [hzs]
  rcases hV with h0 | ⟨vb, voff, rfl, hvb, hvs⟩
  · subst h0
    have e : vs = [] := List.length_eq_zero_iff.1 hvl
    subst e
    have := run_copy_none W 36 35 ty 55 (some ⟨d, o, none⟩) vA L dc 0 vc tS hsz (by simp)
    exact this
  · exact run_copy_cells W _ _ ty 55 d o L dc ⟨vb, voff, none⟩ m vc vs tS hsz (by rw [hvl]; simp only [Nat.min_def]; split <;> omega)
      (fun j v hj => by rw [Addr.add_lit]; exact hW vb _ v hvb (hvs j v hj))
      (fun j hj => hsp _ (by omega)) (fun j hj => hfz _) h1v
set_option maxHeartbeats 4000000 in
set_option maxRecDepth 100000 in
theorem qc1 (b n c i j m vc : Nat) (vA : Option Addr) (cs vs : List Value) (w : World) (hij : i < j) (hj : j < n) (hle : i + m ≤ j) (hnc : n ≤ c) (hc63 : c ≤ 9223372036854775807)
    (hcl : cs.length = n) (hvl : vs.length = m) (hcs : ∀ j v, cs[j]? = some v → w.cell? ⟨b, j, none⟩ = some v)
    (hsp : ∀ k, k < c → (w.cell? ⟨b, k, none⟩).isSome = true) (hfz : ∀ k, w.frozen? ⟨b, k, none⟩ = false) (hV : VSrc b vA m vs w) (h1c : ∀ v ∈ cs, v.oneCell' = true) (h1v : ∀ v ∈ vs, v.oneCell' = true) :
    Calls Tryz.prog 155 #[.slice (some ⟨b, 0, none⟩) n c, .int .i64 i, .int .i64 j, .slice vA m vc] w fun e w' =>
      e = .returned (.slice (some ⟨b, 0, none⟩) (i + m + (n - j)) c) ∧ ∃ q, w' = (((w.drewN q).setCells b i vs).drew.setCells b (i + m) (cs.drop j)).setCells b (i + m + (n - j)) (List.replicate (n - (i + m + (n - j))) (Value.int .u16 0)) := by
  have mixed : Tryz.prog.follows .mixedOrders = true := by kernel_rfl
  have tS : Tryz.prog.underlying 36 = some (.slice 55) := Tryz.underlying36
  have tI : Tryz.prog.underlying 3 = some (.int .i64) := Tryz.underlying3
  have iE : (Tryz.prog.info? 55).map (fun i => (i.zero, i.size, i.bytes)) = some (some (Value.int .u16 0), 1, 2) := by kernel_rfl
  obtain ⟨i0, hi0, hz0, hzs, hzb⟩ := info_parts iE
  have hsz : (Tryz.prog.info? 55).map (·.size) = some 1 := by rw [hi0]; simp [hzs]
  obtain ⟨t, hti⟩ : ∃ t, i + m + (n - j) = t := ⟨_, rfl⟩
  rw [hti]
  have hti' : (i : Int) + (m : Int) + ((n - j : Nat) : Int) = (t : Int) := by omega
  have hz1 : ¬ ((i : Int) = (j : Int)) := by omega
  have hz2 : ¬ ((j : Int) = (n : Int)) := by omega
  have hin : i ≤ n := by omega
  have hic : i ≤ c := by omega
  have hjn : j ≤ n := by omega
  have hji : (i : Int) ≤ (j : Int) := by omega
  have hjn' : (j : Int) ≤ (n : Int) := by omega
  have hnj : n - j = n - j := rfl
  have hw1 : IntKind.i64.wrap ((i : Int) + (m : Int)) = (i : Int) + (m : Int) := by rw [IntKind.wrap_i64]; omega
  have hw2 : IntKind.i64.wrap ((i : Int) + (m : Int) + ((n - j : Nat) : Int)) = (t : Int) := by rw [IntKind.wrap_i64]; omega
  have hcj : ¬ (c = j) := by omega
  have htc : t ≤ c := by omega
  have hci : ¬ (c = i) := by omega
  have hcim : ¬ (c = i + m) := by omega
  have hle' : (i : Int) + (m : Int) ≤ (j : Int) := by omega
  have hbt : (i : Int) + (m : Int) ≤ (t : Int) := by omega
  have hbt' : i + m ≤ t := by omega
  have htn : ((i : Int) + (m : Int)).toNat = i + m := by omega
  have hb1 : (0 : Int) ≤ (i : Int) + (m : Int) := by omega
  have hdl : (cs.drop j).length = n - j := by rw [List.length_drop, hcl]
  have hcpA : ∀ q ty dc, (Builtin.copy_ #[36, 35] ty #[.slice (some ⟨b, i, none⟩) (t - i) dc, .slice vA m vc]).run Tryz.prog (w.drewN q) = .ok (goInt vs.length) ((w.drewN q).setCells b i vs) := fun q ty dc =>
    copyV hV hvl h1v (w.drewN q) b i (t - i) dc ty (fun vb j y _ h => h) (by omega) (fun k hk => hsp _ (by omega)) (fun k => hfz k)
  have hsp1 : ∀ q k, k < c → (((w.drewN q).setCells b i vs).cell? ⟨b, k, none⟩).isSome = true := fun q k hk =>
    isSome_setCells b vs i (w.drewN q) (fun j hj => hsp _ (by omega)) _ (hsp k hk)
  have hfz1 : ∀ q k, ((w.drewN q).setCells b i vs).frozen? ⟨b, k, none⟩ = false := fun q k => by rw [World.frozen?_setCells]; exact hfz k
  have hcpB : ∀ q (W : World), (∀ x, W.cell? x = ((w.drewN q).setCells b i vs).cell? x) → (∀ x, W.frozen? x = ((w.drewN q).setCells b i vs).frozen? x) → ∀ ty dc sc, (Builtin.copy_ #[36, 36] ty #[.slice (some ⟨b, i + m, none⟩) (t - (i + m)) dc, .slice (some ⟨b, j, none⟩) (n - j) sc]).run Tryz.prog W = .ok (goInt (cs.drop j).length) (W.setCells b (i + m) (cs.drop j)) := fun q W hWc hWf ty dc sc =>
    run_copy_cells W _ _ ty 55 b (i + m) (t - (i + m)) dc ⟨b, j, none⟩ (n - j) sc (cs.drop j) tS hsz (by rw [hdl]; simp only [Nat.min_def]; split <;> omega)
      (fun k v hk => by
        rw [Addr.add_lit, hWc, World.cell?_setCells_out b _ _ _ _ (fun _ _ => Or.inr (by show i + vs.length ≤ j + k; omega))]
        exact hcs (j + k) v (by rwa [List.getElem?_drop] at hk))
      (fun k hk => by rw [hWc]; exact hsp1 q _ (by omega)) (fun k hk => by rw [hWf]; exact hfz1 q _) (fun v hv => h1c v (List.mem_of_mem_drop hv))
  by_cases htn' : t < n
  · have hct : ¬ (c = t) := by omega
    have hcl3 : ∀ q ty, (Builtin.clear_ #[36] ty #[.slice (some ⟨b, t, none⟩) (n - t) (c - t)]).run Tryz.prog (((w.drewN q).setCells b i vs).drew.setCells b (i + m) (cs.drop j)) = .ok (.tuple #[]) ((((w.drewN q).setCells b i vs).drew.setCells b (i + m) (cs.drop j)).setCells b t (List.replicate (n - t) (Value.int .u16 0))) :=
      fun q ty => Lib.run_clear_slice _ _ _ ty _ tS Tryz.zeroValue55 rfl rfl b t _ _ (by omega) (fun k hk => isSome_setCells b (cs.drop j) (i + m) ((w.drewN q).setCells b i vs).drew (fun z hz => hsp1 q _ (by omega)) _ (hsp1 q _ (by omega))) (fun k hk => by rw [World.frozen?_setCells]; exact hfz1 q _)
    go_enter Tryz.func155, Tryz.ntmps155
    go_wp2
    go_quiet_o (fail)
    go_wp2_with (at_builtin; refine wpList_copy_runI _ rfl _ _ 36 35 rfl _ _ rfl rfl (hcpA _ _ _) ?_)
    go_region_law_o (refine step_copy_runI rfl _ _ 36 36 rfl (.slice (some ⟨b, i + m, none⟩) (t - (i + m)) (c - (i + m))) (.slice (some ⟨b, j, none⟩) (n - j) (c - j)) (by simp [Act.eval, Act.put]) (by simp [Act.eval, Act.put]) (hcpB nq ((w.drewN nq).setCells b i vs).drew (fun _ => rfl) (fun _ => rfl) 3 (c - (i + m)) (c - j)) ?_)
    all_goals (go_wp2; go_ret; exact ⟨rfl, nq, rfl⟩)
  · have hz : n - t = 0 := by omega
    have htle : t ≤ n := by omega
    rw [hz]
    have hW0 : ∀ q, (((w.drewN q).setCells b i vs).drew.setCells b (i + m) (cs.drop j)).setCells b t (List.replicate 0 (Value.int .u16 0)) = ((w.drewN q).setCells b i vs).drew.setCells b (i + m) (cs.drop j) := fun q => rfl
    have hcl0 : ∀ (W : World) (d : Option Addr) k ty, (Builtin.clear_ #[36] ty #[.slice d 0 k]).run Tryz.prog W = .ok (.tuple #[]) W := fun W d k ty => by
      cases d <;> simp [Builtin.clear_, run_underlying tS, sizeOf, typeInfo, hi0, run_bind (Tryz.zeroValue55 W), storeCells, Builtin.zeroCells]
    go_enter Tryz.func155, Tryz.ntmps155
    go_wp2
    go_quiet_o (fail)
    go_wp2_with (at_builtin; refine wpList_copy_runI _ rfl _ _ 36 35 rfl _ _ rfl rfl (hcpA _ _ _) ?_)
    go_region_law_o (refine step_copy_runI rfl _ _ 36 36 rfl (.slice (some ⟨b, i + m, none⟩) (t - (i + m)) (c - (i + m))) (.slice (some ⟨b, j, none⟩) (n - j) (c - j)) (by simp [Act.eval, Act.put]) (by simp [Act.eval, Act.put]) (hcpB nq ((w.drewN nq).setCells b i vs).drew (fun _ => rfl) (fun _ => rfl) 3 (c - (i + m)) (c - j)) ?_)
    all_goals go_wp2
    all_goals (go_ret; exact ⟨rfl, nq, rfl⟩)
set_option maxHeartbeats 4000000 in
set_option maxRecDepth 100000 in
theorem qc2 (b n c i j m vc : Nat) (vA : Option Addr) (cs vs : List Value) (w : World) (hij : i < j) (hj : j < n) (hle : j < i + m) (hnc : n ≤ c) (htc0 : i + m + (n - j) ≤ c) (hc63 : c ≤ 9223372036854775807)
    (hcl : cs.length = n) (hvl : vs.length = m) (hcs : ∀ j v, cs[j]? = some v → w.cell? ⟨b, j, none⟩ = some v)
    (hsp : ∀ k, k < c → (w.cell? ⟨b, k, none⟩).isSome = true) (hfz : ∀ k, w.frozen? ⟨b, k, none⟩ = false) {vb voff : Nat} (hvA : vA = some ⟨vb, voff, none⟩) (hvb : vb ≠ b) (hvs : ∀ j y, vs[j]? = some y → w.cell? ⟨vb, voff + j, none⟩ = some y) (h1c : ∀ v ∈ cs, v.oneCell' = true) (h1v : ∀ v ∈ vs, v.oneCell' = true) :
    Calls Tryz.prog 155 #[.slice (some ⟨b, 0, none⟩) n c, .int .i64 i, .int .i64 j, .slice vA m vc] w fun e w' =>
      e = .returned (.slice (some ⟨b, 0, none⟩) (i + m + (n - j)) c) ∧ ∃ q, w' = ((w.drewN q).setCells b (i + m) (cs.drop j)).setCells b i vs := by
  have mixed : Tryz.prog.follows .mixedOrders = true := by kernel_rfl
  have tS : Tryz.prog.underlying 36 = some (.slice 55) := Tryz.underlying36
  have tI : Tryz.prog.underlying 3 = some (.int .i64) := Tryz.underlying3
  have iE : (Tryz.prog.info? 55).map (fun i => (i.zero, i.size, i.bytes)) = some (some (Value.int .u16 0), 1, 2) := by kernel_rfl
  obtain ⟨i0, hi0, hz0, hzs, hzb⟩ := info_parts iE
  have hsz : (Tryz.prog.info? 55).map (·.size) = some 1 := by rw [hi0]; simp [hzs]
  obtain ⟨t, hti⟩ : ∃ t, i + m + (n - j) = t := ⟨_, rfl⟩
  rw [hti]
  have hti' : (i : Int) + (m : Int) + ((n - j : Nat) : Int) = (t : Int) := by omega
  have hz1 : ¬ ((i : Int) = (j : Int)) := by omega
  have hz2 : ¬ ((j : Int) = (n : Int)) := by omega
  have hin : i ≤ n := by omega
  have hic : i ≤ c := by omega
  have hjn : j ≤ n := by omega
  have hji : (i : Int) ≤ (j : Int) := by omega
  have hjn' : (j : Int) ≤ (n : Int) := by omega
  have hnj : n - j = n - j := rfl
  have hw1 : IntKind.i64.wrap ((i : Int) + (m : Int)) = (i : Int) + (m : Int) := by rw [IntKind.wrap_i64]; omega
  have hw2 : IntKind.i64.wrap ((i : Int) + (m : Int) + ((n - j : Nat) : Int)) = (t : Int) := by rw [IntKind.wrap_i64]; omega
  have hcj : ¬ (c = j) := by omega
  have htc : t ≤ c := by omega
  have hci : ¬ (c = i) := by omega
  have hle' : ¬ ((i : Int) + (m : Int) ≤ (j : Int)) := by omega
  have hbt : (i : Int) + (m : Int) ≤ (t : Int) := by omega
  have hbt' : i + m ≤ t := by omega
  have hbc : ¬ (c = i + m) := by omega
  have htn : ((i : Int) + (m : Int)).toNat = i + m := by omega
  have hb1 : (0 : Int) ≤ (i : Int) + (m : Int) := by omega
  have hdl : (cs.drop j).length = n - j := by rw [List.length_drop, hcl]
  subst hvA
  have hov : ∀ q lb cb, (callFunc 181 #[.slice (some ⟨b, i + m, none⟩) lb cb, .slice (some ⟨vb, voff, none⟩) m vc]).run Tryz.prog (w.drewN q) = .ok (.value (.bool false)) (w.drewN q) := fun q lb cb => by
    obtain ⟨tA, kA, hsa, hkA, _⟩ := cell_shape (hvs 0 _ (List.getElem?_eq_getElem (by omega)))
    obtain ⟨y, hy⟩ := Option.isSome_iff_exists.1 (hsp 0 (by omega))
    obtain ⟨tB, kB, hsb, hkB, _⟩ := cell_shape hy
    rw [run_callFunc_extern Tryz.func181 (by kernel_rfl) (by kernel_rfl) (by kernel_rfl) (e := Extern.SlicesOverlaps.overlaps #[35, 35] #[4]) (by kernel_rfl),
      (qbe (w.drewN q) 35 4 55 Tryz.underlying35 1 Tryz.sizeOf55 ⟨vb, voff, none⟩ ⟨b, i + m, none⟩ m vc lb cb hvb tA tB kA kB hsa hsb hkA (hfz _) (hfz _)).1]
    rfl
  have hcpB : ∀ q ty dc sc, (Builtin.copy_ #[36, 36] ty #[.slice (some ⟨b, i + m, none⟩) (t - (i + m)) dc, .slice (some ⟨b, j, none⟩) (n - j) sc]).run Tryz.prog (w.drewN q).drew = .ok (goInt (cs.drop j).length) ((w.drewN q).drew.setCells b (i + m) (cs.drop j)) := fun q ty dc sc =>
    run_copy_cells (w.drewN q).drew _ _ ty 55 b (i + m) (t - (i + m)) dc ⟨b, j, none⟩ (n - j) sc (cs.drop j) tS hsz (by rw [hdl]; simp only [Nat.min_def]; split <;> omega)
      (fun k v hk => by rw [Addr.add_lit]; exact hcs (j + k) v (by rwa [List.getElem?_drop] at hk))
      (fun k hk => hsp _ (by omega)) (fun k hk => hfz _) (fun v hv => h1c v (List.mem_of_mem_drop hv))
  have hcpA : ∀ q ty dc, (Builtin.copy_ #[36, 35] ty #[.slice (some ⟨b, i, none⟩) (t - i) dc, .slice (some ⟨vb, voff, none⟩) m vc]).run Tryz.prog ((w.drewN q).setCells b (i + m) (cs.drop j)) = .ok (goInt vs.length) (((w.drewN q).setCells b (i + m) (cs.drop j)).setCells b i vs) := fun q ty dc =>
    run_copy_cells _ _ _ ty 55 b i (t - i) dc ⟨vb, voff, none⟩ m vc vs tS hsz (by rw [hvl]; simp only [Nat.min_def]; split <;> omega)
      (fun k v hk => by
        rw [Addr.add_lit, World.cell?_setCells_out b _ _ _ _ (fun h _ => absurd h hvb)]
        exact hvs k v hk)
      (fun k hk => isSome_setCells b (cs.drop j) (i + m) (w.drewN q) (fun z hz => hsp _ (by omega)) _ (hsp _ (by omega))) (fun k hk => by rw [World.frozen?_setCells]; exact hfz _) h1v
  go_enter Tryz.func155, Tryz.ntmps155
  go_wp2
  go_quiet_o (fail)
  go_wp2_with (simp only [hov])
  go_region_law_o (refine step_copy_runI rfl _ _ 36 36 rfl (.slice (some ⟨b, i + m, none⟩) (t - (i + m)) (c - (i + m))) (.slice (some ⟨b, j, none⟩) (n - j) (c - j)) (by simp [Act.eval, Act.put]) (by simp [Act.eval, Act.put]) (hcpB nq 3 (c - (i + m)) (c - j)) ?_)
  all_goals go_wp2_with (at_builtin; refine wpList_copy_runI _ rfl _ _ 36 35 rfl _ _ rfl rfl (hcpA (nq + 1) _ _) ?_)
  all_goals (go_ret; exact ⟨rfl, nq + 1, rfl⟩)
set_option maxHeartbeats 4000000 in
set_option maxRecDepth 100000 in
theorem qd4 (b n c i j vb voff m vc : Nat) (cs vs : List Value) (w : World) (hij : i < j) (hj : j < n) (hnc : n ≤ c) (hroom : c < i + m + (n - j)) (hbig : (i + m + (n - j)) * 2 ≤ 140737488355328) (hbig2 : i + m + (n - j) ≤ 140737488355328)
    (hcl : cs.length = n) (hvl : vs.length = m) (hcs : ∀ j v, cs[j]? = some v → w.cell? ⟨b, j, none⟩ = some v)
    (hvs : ∀ j v, vs[j]? = some v → w.cell? ⟨vb, voff + j, none⟩ = some v) (h1c : ∀ v ∈ cs, v.oneCell' = true) (h1v : ∀ v ∈ vs, v.oneCell' = true) :
    Calls Tryz.prog 155 #[.slice (some ⟨b, 0, none⟩) n c, .int .i64 i, .int .i64 j, .slice (some ⟨vb, voff, none⟩) m vc] w fun e w' => ∃ q,
      e = .returned (.slice (some ⟨w.heap.size, 0, none⟩) (i + m + (n - j)) (grownCap (w.drewN q) (i + m + (n - j)) c 55)) ∧
      w' = (((w.drewN (q + 1)).alloc (.cells ((cs.take i).toArray ++ Builtin.zeroCells (Value.int .u16 0).cells (i + m + (n - j) - i) ++ Builtin.zeroCells (Value.int .u16 0).cells (grownCap (w.drewN q) (i + m + (n - j)) c 55 - (i + m + (n - j)))) 55)).setCells w.heap.size i vs).drew.setCells w.heap.size (i + m) (cs.drop j) := by
  have mixed : Tryz.prog.follows .mixedOrders = true := by kernel_rfl
  have tS : Tryz.prog.underlying 36 = some (.slice 55) := Tryz.underlying36
  have tI : Tryz.prog.underlying 3 = some (.int .i64) := Tryz.underlying3
  have iE : (Tryz.prog.info? 55).map (fun i => (i.zero, i.size, i.bytes)) = some (some (Value.int .u16 0), 1, 2) := by kernel_rfl
  obtain ⟨i0, hi0, hz0, hzs, hzb⟩ := info_parts iE
  have hsz : (Tryz.prog.info? 55).map (·.size) = some 1 := by rw [hi0]; simp [hzs]
  obtain ⟨t, hti⟩ : ∃ t, i + m + (n - j) = t := ⟨_, rfl⟩
  rw [hti] at hroom hbig hbig2 ⊢
  have hti' : (i : Int) + (m : Int) + ((n - j : Nat) : Int) = (t : Int) := by omega
  have hz1 : ¬ ((i : Int) = (j : Int)) := by omega
  have hz2 : ¬ ((j : Int) = (n : Int)) := by omega
  have hin : i ≤ n := by omega
  have hic : i ≤ c := by omega
  have hjn : j ≤ n := by omega
  have hji : (i : Int) ≤ (j : Int) := by omega
  have hjn' : (j : Int) ≤ (n : Int) := by omega
  have hw1 : IntKind.i64.wrap ((i : Int) + (m : Int)) = (i : Int) + (m : Int) := by rw [IntKind.wrap_i64]; omega
  have hw2 : IntKind.i64.wrap ((i : Int) + (m : Int) + ((n - j : Nat) : Int)) = (t : Int) := by rw [IntKind.wrap_i64]; omega
  have hcj : ¬ (c = j) := by omega
  have hz3 : (c : Int) < (t : Int) := by omega
  have hbw : b < w.heap.size := block_lt_of_cell (hcs 0 _ (List.getElem?_eq_getElem (by omega)))
  have hm0 : 0 < m := by omega
  have hvw : vb < w.heap.size := block_lt_of_cell (hvs 0 _ (List.getElem?_eq_getElem (by omega)))
  have hkk : (t : Int) - (i : Int) = ((t - i : Nat) : Int) := by omega
  have hik : i + (t - i) = t := by omega
  have hold : ∀ q, (Builtin.firstCells i0.size i (.slice (some ⟨b, 0, none⟩) i c)).run Tryz.prog (w.drewN q).drew = .ok (cs.take i).toArray (w.drewN q).drew := fun q => by
    rw [hzs]
    exact run_firstCells_some (w.drewN q).drew 1 i ⟨b, 0, none⟩ i c (cs.take i) (by rw [List.length_take]; omega) (fun j v hj => by
      rw [Addr.add_lit, Nat.zero_add]
      rw [List.getElem?_take] at hj
      split at hj
      · exact hcs j v hj
      · cases hj)
  have hrz : ∀ q ty, (Builtin.append_ #[36, 3] ty #[.slice (some ⟨b, 0, none⟩) i c, .int .i64 ((t : Int) - (i : Int))]).run Tryz.prog (w.drewN q) =
      .ok (.slice (some ⟨w.heap.size, 0, none⟩) t (grownCap (w.drewN q) t c 55)) ((w.drewN (q + 1)).alloc (.cells ((cs.take i).toArray ++ Builtin.zeroCells (Value.int .u16 0).cells (t - i) ++ Builtin.zeroCells (Value.int .u16 0).cells (grownCap (w.drewN q) t c 55 - t)) 55)) := fun q ty => by
    have h := Lib.run_append_grow_zeros (w.drewN q) 36 3 ty 55 i0 _ .i64 .i64 tS tI hi0 hz0 (some ⟨b, 0, none⟩) i c (cs.take i) (hold q) (t - i) (by omega) (by omega) (by omega) (by omega) (by rw [hzb]; omega) (by rw [hzb, hik]; exact growslice_fits hroom hbig)
    rw [hik] at h
    rw [hkk]
    exact h
  go_enter Tryz.func155, Tryz.ntmps155
  go_wp2
  go_quiet_o (fail)
  have hr := hrz nq
  have hge := grownCap_ge (w.drewN nq) t c 55
  have hcm := grownCap_le_maxLen (w.drewN nq) t c 55 (by unfold maxLen; omega)
  obtain ⟨G, hG⟩ : ∃ G, G = grownCap (w.drewN nq) t c 55 := ⟨_, rfl⟩
  obtain ⟨ROW, hROW⟩ : ∃ ROW : Array Value, ROW = (cs.take i).toArray ++ Builtin.zeroCells (Value.int .u16 0).cells (t - i) ++ Builtin.zeroCells (Value.int .u16 0).cells (G - t) := ⟨_, rfl⟩
  rw [← hG] at hr hge hcm
  rw [← hROW] at hr
  have hRl : t ≤ ROW.size := by
    rw [hROW]
    simp [Builtin.zeroCells, Value.cells]
    omega
  obtain ⟨w2, hw2'⟩ : ∃ w2, w2 = w.drewN (nq + 1) := ⟨_, rfl⟩
  rw [← hw2'] at hr
  have hs2 : w2.heap.size = w.heap.size := by rw [hw2']; rfl
  have hN : ∀ k, k < t → ((w2.alloc (.cells ROW 55)).cell? ⟨w.heap.size, k, none⟩).isSome = true := fun k hk => by
    rw [World.cell?_alloc_at (w := w2) ROW _ w.heap.size k hs2.symm, Array.getElem?_eq_getElem (by omega)]; rfl
  have hNf : ∀ k, (w2.alloc (.cells ROW 55)).frozen? ⟨w.heap.size, k, none⟩ = false := fun k => World.frozen?_alloc_at (w := w2) ROW _ w.heap.size k hs2.symm
  have hOb : ∀ k v, w.cell? ⟨b, k, none⟩ = some v → (w2.alloc (.cells ROW 55)).cell? ⟨b, k, none⟩ = some v := fun k v h => by rw [World.cell?_alloc_past (w := w2) _ b k (by omega), hw2']; exact h
  have hOv : ∀ k v, w.cell? ⟨vb, k, none⟩ = some v → (w2.alloc (.cells ROW 55)).cell? ⟨vb, k, none⟩ = some v := fun k v h => by rw [World.cell?_alloc_past (w := w2) _ vb k (by omega), hw2']; exact h
  have hcpA : ∀ ty dc, (Builtin.copy_ #[36, 35] ty #[.slice (some ⟨w.heap.size, i, none⟩) (t - i) dc, .slice (some ⟨vb, voff, none⟩) m vc]).run Tryz.prog (w2.alloc (.cells ROW 55)) = .ok (goInt vs.length) ((w2.alloc (.cells ROW 55)).setCells w.heap.size i vs) := fun ty dc =>
    run_copy_cells _ _ _ ty 55 w.heap.size i (t - i) dc ⟨vb, voff, none⟩ m vc vs tS hsz (by rw [hvl]; simp only [Nat.min_def]; split <;> omega)
      (fun k v hk => by rw [Addr.add_lit]; exact hOv _ v (hvs k v hk))
      (fun k hk => hN _ (by omega)) (fun k hk => hNf _) h1v
  have hGi : ¬ (G = i) := by omega
  have hGim : ¬ (G = i + m) := by omega
  have hci : ¬ (c = i) := by omega
  have hbN : b ≠ w.heap.size := by omega
  have hdl : (cs.drop j).length = n - j := by rw [List.length_drop, hcl]
  have hbt : (i : Int) + (m : Int) ≤ (t : Int) := by omega
  have hbt' : i + m ≤ t := by omega
  have hit : i ≤ t := by omega
  have hit' : (i : Int) ≤ (t : Int) := by omega
  have htn : ((i : Int) + (m : Int)).toNat = i + m := by omega
  have hb1 : (0 : Int) ≤ (i : Int) + (m : Int) := by omega
  have hcpB : ∀ (W : World), (∀ x, W.cell? x = ((w2.alloc (.cells ROW 55)).setCells w.heap.size i vs).cell? x) → (∀ x, W.frozen? x = ((w2.alloc (.cells ROW 55)).setCells w.heap.size i vs).frozen? x) → ∀ ty dc sc, (Builtin.copy_ #[36, 36] ty #[.slice (some ⟨w.heap.size, i + m, none⟩) (t - (i + m)) dc, .slice (some ⟨b, j, none⟩) (n - j) sc]).run Tryz.prog W = .ok (goInt (cs.drop j).length) (W.setCells w.heap.size (i + m) (cs.drop j)) := fun W hWc hWf ty dc sc =>
    run_copy_cells W _ _ ty 55 w.heap.size (i + m) (t - (i + m)) dc ⟨b, j, none⟩ (n - j) sc (cs.drop j) tS hsz (by rw [hdl]; simp only [Nat.min_def]; split <;> omega)
      (fun k v hk => by
        rw [Addr.add_lit, hWc, World.cell?_setCells_out _ _ _ _ _ (fun h _ => absurd h hbN)]
        exact hOb _ v (hcs (j + k) v (by rwa [List.getElem?_drop] at hk)))
      (fun k hk => by rw [hWc]; exact isSome_setCells _ _ _ _ (fun z hz => hN _ (by omega)) _ (hN _ (by omega)))
      (fun k hk => by rw [hWf, World.frozen?_setCells]; exact hNf _) (fun v hv => h1c v (List.mem_of_mem_drop hv))
  have hG' : Nonempty (PLift (G = grownCap (w.drewN nq) t c 55)) := ⟨⟨hG⟩⟩
  have hROW' : Nonempty (PLift (ROW = (cs.take i).toArray ++ Builtin.zeroCells (Value.int .u16 0).cells (t - i) ++ Builtin.zeroCells (Value.int .u16 0).cells (G - t))) := ⟨⟨hROW⟩⟩
  have hw2'' : Nonempty (PLift (w2 = w.drewN (nq + 1))) := ⟨⟨hw2'⟩⟩
  clear hkk hik hold hrz hG hROW hw2'
  go_wp2_with (first
    | (at_builtin; refine Lib.wpList_append_run _ rfl _ _ _ _ rfl _ _ rfl rfl _ _ (hr _) ?_)
    | (at_builtin; refine wpList_copy_runI _ rfl _ _ 36 35 rfl _ _ rfl rfl (hcpA _ _) ?_))
  go_region_law_o (refine step_copy_runI rfl _ _ 36 36 rfl (.slice (some ⟨w.heap.size, i + m, none⟩) (t - (i + m)) (G - (i + m))) (.slice (some ⟨b, j, none⟩) (n - j) (c - j)) (by simp [Act.eval, Act.put]) (by simp [Act.eval, Act.put]) (hcpB ((w2.alloc (.cells ROW 55)).setCells w.heap.size i vs).drew (fun _ => rfl) (fun _ => rfl) 3 (G - (i + m)) (c - j)) ?_)
  all_goals go_wp2
  all_goals (go_ret; refine ⟨nq, ?_, ?_⟩)
  all_goals
    obtain ⟨⟨e1⟩⟩ := hG'
    obtain ⟨⟨e2⟩⟩ := hROW'
    obtain ⟨⟨e3⟩⟩ := hw2''
    first
    | (subst e1; rfl)
    | rw [e3, e2, e1]
theorem spliceA {α : Type} (ys sp vs D Z : List α) (i m t : Nat) (hm : vs.length = m) (hi : i ≤ ys.length) (ht : t = i + m + D.length) (hz : t + Z.length = ys.length) :
    (((((ys ++ sp).take i ++ vs ++ (ys ++ sp).drop (i + m)).take (i + m) ++ D ++ ((ys ++ sp).take i ++ vs ++ (ys ++ sp).drop (i + m)).drop (i + m + D.length)).take t) ++ Z ++ ((((ys ++ sp).take i ++ vs ++ (ys ++ sp).drop (i + m)).take (i + m) ++ D ++ ((ys ++ sp).take i ++ vs ++ (ys ++ sp).drop (i + m)).drop (i + m + D.length)).drop (t + Z.length))) = (ys.take i ++ vs ++ D ++ Z) ++ sp := by
  have h1 : (ys ++ sp).take i = ys.take i := List.take_append_of_le_length hi
  have h2 : (ys.take i ++ vs).length = i + m := by simp; omega
  rw [h1]
  rw [List.take_left' (l₁ := ys.take i ++ vs) (l₂ := (ys ++ sp).drop (i + m)) h2]
  rw [show (ys.take i ++ vs ++ (ys ++ sp).drop (i + m)).drop (i + m + D.length) = (ys ++ sp).drop (i + m + D.length) by
    rw [List.drop_append, h2, List.drop_eq_nil_of_le (by omega), List.nil_append, List.drop_drop]
    congr 1; omega]
  have h3 : (ys.take i ++ vs ++ D).length = t := by rw [List.length_append, h2, ht]
  rw [List.take_left' h3]
  rw [show (ys.take i ++ vs ++ D ++ (ys ++ sp).drop (i + m + D.length)).drop (t + Z.length) = sp by
    rw [List.drop_append, h3, List.drop_eq_nil_of_le (by omega), List.nil_append, List.drop_drop, ← ht, show t + (t + Z.length - t) = ys.length by omega, List.drop_left' rfl]]
theorem spliceB {α : Type} (ys sp vs D : List α) (i m : Nat) (hm : vs.length = m) (hi : i ≤ ys.length) (ht : ys.length ≤ i + m + D.length) (hr : i + m ≤ ys.length + sp.length) :
    (((ys ++ sp).take (i + m) ++ D ++ (ys ++ sp).drop (i + m + D.length)).take i ++ vs ++ ((ys ++ sp).take (i + m) ++ D ++ (ys ++ sp).drop (i + m + D.length)).drop (i + m)) = (ys.take i ++ vs ++ D) ++ sp.drop (i + m + D.length - ys.length) := by
  have h1 : ((ys ++ sp).take (i + m)).length = i + m := by simp; omega
  rw [List.append_assoc ((ys ++ sp).take (i + m)), List.take_append_of_le_length (by omega), List.take_take, Nat.min_eq_left (by omega), List.take_append_of_le_length hi, List.drop_left' h1]
  rw [List.drop_append, show ys.drop (i + m + D.length) = [] from List.drop_eq_nil_of_le ht, List.nil_append]
  simp [List.append_assoc]
theorem spliceC {α : Type} (ys zs vs D : List α) (i m : Nat) (hm : vs.length = m) (hi : i ≤ ys.length) :
    ((((ys.take i ++ zs).take i ++ vs ++ (ys.take i ++ zs).drop (i + m)).take (i + m)) ++ D ++ ((ys.take i ++ zs).take i ++ vs ++ (ys.take i ++ zs).drop (i + m)).drop (i + m + D.length)) = (ys.take i ++ vs ++ D) ++ zs.drop (m + D.length) := by
  have hl : (ys.take i).length = i := by simp only [List.length_take]; omega
  have hl2 : (ys.take i ++ vs).length = i + m := by simp only [List.length_append, hl, hm]
  rw [List.take_left' hl, List.take_left' hl2, List.drop_append, hl2]
  rw [show (ys.take i ++ vs).drop (i + m + D.length) = [] from List.drop_eq_nil_of_le (by rw [hl2]; omega), List.nil_append]
  rw [show (ys.take i ++ zs).drop (i + m) = zs.drop m from by rw [show i + m = (ys.take i).length + m by rw [hl], List.drop_length_add_append], List.drop_drop]
  congr 2; omega
def midL (l v : List Int) (i j : Nat) : List Int := l.take i ++ v ++ l.drop j ++ List.replicate (l.length - (i + v.length + (l.length - j))) 0
theorem qll (l v : List Int) (i j : Nat) (hij : i ≤ j) (hj : j ≤ l.length) : (midL l v i j).length = i + v.length + (l.length - j) + (l.length - (i + v.length + (l.length - j))) := by
  unfold midL
  simp only [List.length_append, List.length_take, List.length_drop, List.length_replicate]
  omega
set_option maxHeartbeats 4000000 in
set_option maxRecDepth 100000 in
theorem coreMidU {C : Cx} {s : St} {γ : Nat → Option Nat} {κ : Nat → Nat} {a : Act} {W : World} (hC : Conc C s γ κ a W) {id : Nat} {l v : List Int} (hb : s.hp[id]? = some ⟨55, 1, l.map (cK .u16)⟩) {i j : Nat} (hij : i < j) (hj : j < l.length) (hl : l.length ≤ 1000000000) (hv : v.length ≤ 1000000000)
    {vA : Option Addr} {vc : Nat} (hV : v.length = 0 ∨ ∃ vb voff, vA = some ⟨vb, voff, none⟩ ∧ γ id ≠ some vb ∧ ∀ k y, (v.map (Value.int .u16))[k]? = some y → W.cell? ⟨vb, voff + k, none⟩ = some y) :
    Calls Tryz.prog 155 #[.slice ((γ id).map fun g => ⟨g, 0, none⟩) l.length (κ id), .int .i64 i, .int .i64 j, .slice vA v.length vc] W fun e W' => ∃ x γ' κ', e = .returned x ∧
      Conc C ⟨s.env, s.hp.set id ⟨55, 1, (midL l v i j).map (cK .u16)⟩⟩ γ' κ' a W' ∧ RepA (St.mm ⟨s.env, s.hp.set id ⟨55, 1, (midL l v i j).map (cK .u16)⟩⟩ C γ' κ' W') (.sub id (midL l v i j).length 0 (i + v.length + (l.length - j))) x := by
  have hid : id < s.hp.length := (List.getElem?_eq_some_iff.1 hb).1
  obtain ⟨g, sp, hg, hmem, hcap⟩ := ownU hC hb (fun e => by rw [e] at hj; simp at hj)
  have hmax' : κ id ≤ maxLen := (hC.blk id _ hb).capm
  have hc63 : κ id ≤ 9223372036854775807 := by unfold maxLen at hmax'; omega
  rw [hg]
  have hcell : ∀ j, W.cell? ⟨g, j, none⟩ = (l.map (Value.int .u16) ++ sp)[j]? := fun j => by rw [q7 hmem]; simp
  have hcs : ∀ j y, (l.map (Value.int .u16))[j]? = some y → W.cell? ⟨g, j, none⟩ = some y := fun j y hy => by
    rw [hcell, List.getElem?_append_left (List.getElem?_eq_some_iff.1 hy).1]; exact hy
  have h1c : ∀ u : List Int, ∀ y ∈ u.map (Value.int .u16), y.oneCell' = true := by
    intro u y hy
    obtain ⟨z, _, rfl⟩ := List.mem_map.1 hy
    rfl
  obtain ⟨t, ht⟩ : ∃ t, i + v.length + (l.length - j) = t := ⟨_, rfl⟩
  have hml := qll l v i j (by omega) (by omega)
  rw [ht] at hml ⊢
  have hnew : ((midL l v i j).map (cK .u16)).length = (midL l v i j).length := List.length_map _
  have hrep : All2 (RepA (s.mm C γ κ W)) ((midL l v i j).map (cK .u16)).flatten ((midL l v i j).map (Value.int .u16)) := qfn _ _
  have e2 : (l.map (Value.int .u16)).take i ++ v.map (Value.int .u16) ++ (l.map (Value.int .u16)).drop j ++ List.replicate (l.length - t) (Value.int .u16 0) = (midL l v i j).map (Value.int .u16) := by
    unfold midL; rw [ht]; simp
  have hsub : ∀ {γ' : Nat → Option Nat} {κ' : Nat → Nat} {W' : World} {g' k' : Nat}, γ' id = some g' → t ≤ k' → RepA (St.mm ⟨s.env, s.hp.set id ⟨55, 1, (midL l v i j).map (cK .u16)⟩⟩ C γ' κ' W') (.sub id (midL l v i j).length 0 t) (.slice (some ⟨g', 0, none⟩) t k') := by
    intro γ' κ' W' g' k' h1 h2
    refine .sub id _ 0 _ ⟨55, 1, (midL l v i j).map (cK .u16)⟩ _ _ (List.getElem?_set_self hid) (Nat.le_of_eq hnew.symm) (fun _ => ⟨by omega, fun _ => ⟨g', h1, by simp⟩⟩) h2
  have hdl : ((l.map (Value.int .u16)).drop j).length = l.length - j := by simp
  have hvl : (v.map (Value.int .u16)).length = v.length := by simp
  have hll : (l.map (Value.int .u16)).length = l.length := by simp
  have hspc : ∀ k, k < κ id → (W.cell? ⟨g, k, none⟩).isSome = true := fun k hk => by
    rw [hcell, List.getElem?_eq_getElem (by simp only [List.length_append, List.length_map]; omega)]; rfl
  by_cases hle : i + v.length ≤ j
  · have hV' : VSrc g vA v.length (v.map (Value.int .u16)) W := by
      rcases hV with h | ⟨vb, voff, h1, h2, h3⟩
      · exact .inl h
      · exact .inr ⟨vb, voff, h1, fun e => h2 (by rw [hg, e]), h3⟩
    refine (qc1 g l.length (κ id) i j v.length vc vA _ _ W hij hj hle (by omega) hc63 hll hvl hcs hspc (fun k => qan hmem k) hV' (h1c l) (h1c v)).mono ?_
    rintro e W' ⟨rfl, q, rfl⟩
    rw [ht]
    have h1 := ql (v.map (Value.int .u16)) i (W.drewN q) _ hmem (by simp only [List.length_append, List.length_map]; omega)
    have h2 := ql ((l.map (Value.int .u16)).drop j) (i + v.length) ((W.drewN q).setCells g i (v.map (Value.int .u16))).drew _ h1 (by simp only [List.length_append, List.length_map, List.length_drop, List.length_take]; omega)
    have h3 := ql (List.replicate (l.length - t) (Value.int .u16 0)) t _ _ h2 (by simp only [List.length_append, List.length_map, List.length_take, List.length_drop, List.length_replicate]; omega)
    rw [hvl, spliceA (l.map (Value.int .u16)) sp (v.map (Value.int .u16)) ((l.map (Value.int .u16)).drop j) (List.replicate (l.length - t) (Value.int .u16 0)) i v.length t hvl (by omega) (by omega) (by rw [List.length_replicate]; omega), e2] at h3
    have hs1 := qj g (v.map (Value.int .u16)) i (W.drewN q)
    have hs2 := qj g ((l.map (Value.int .u16)).drop j) (i + v.length) ((W.drewN q).setCells g i (v.map (Value.int .u16))).drew
    have hs3 := qj g (List.replicate (l.length - t) (Value.int .u16 0)) t (((W.drewN q).setCells g i (v.map (Value.int .u16))).drew.setCells g (i + v.length) ((l.map (Value.int .u16)).drop j))
    obtain ⟨γ', κ', k1, k2, k3⟩ := hC.swap (b := ⟨55, 1, l.map (cK .u16)⟩) hb (g' := g) (k' := κ id) (rows' := (midL l v i j).map (cK .u16)) h3
      (fun x hx _ => (qk g x hx _ _ _).trans ((qk g x hx _ _ _).trans (qk g x hx _ _ _))) (by rw [hs3.2.2.2, hs2.2.2.2]; show _ ≤ ((W.drewN q).setCells g i (v.map (Value.int .u16))).heap.size; rw [hs1.2.2.2]; exact Nat.le_refl _) (hs3.1.trans (hs2.1.trans hs1.1)) (hs3.2.1.trans (hs2.2.1.trans hs1.2.1)) (hs3.2.2.1.trans (hs2.2.2.1.trans hs1.2.2.1)) (.inl hg)
      (fun _ => ⟨hg, rfl⟩) (by rw [hnew, hml, List.length_map]; omega) (qcp _) (qbt _) (by rw [hnew, hml]; omega) hmax' (by simp only [List.length_append, List.length_map, hml]; show _ = κ id * 1; omega) hrep
    exact ⟨_, γ', κ', rfl, k1, hsub k2 (by omega)⟩
  · obtain ⟨vb, voff, rfl, hvb, hvs⟩ : ∃ vb voff, vA = some ⟨vb, voff, none⟩ ∧ γ id ≠ some vb ∧ ∀ k y, (v.map (Value.int .u16))[k]? = some y → W.cell? ⟨vb, voff + k, none⟩ = some y := by
      rcases hV with h | h
      · omega
      · exact h
    have hz : l.length - t = 0 := by omega
    rw [hz, List.replicate_zero, List.append_nil] at e2
    by_cases hroom : t ≤ κ id
    · refine (qc2 g l.length (κ id) i j v.length vc _ _ _ W hij hj (by omega) (by omega) (by omega) hc63 hll hvl hcs hspc (fun k => qan hmem k) rfl (fun e => hvb (by rw [hg, e])) hvs (h1c l) (h1c v)).mono ?_
      rintro e W' ⟨rfl, q, rfl⟩
      rw [ht]
      have h1 := ql ((l.map (Value.int .u16)).drop j) (i + v.length) (W.drewN q) _ hmem (by simp only [List.length_append, List.length_map, List.length_drop]; omega)
      have h2 := ql (v.map (Value.int .u16)) i _ _ h1 (by simp only [List.length_append, List.length_map, List.length_drop, List.length_take]; omega)
      rw [hvl, spliceB (l.map (Value.int .u16)) sp (v.map (Value.int .u16)) ((l.map (Value.int .u16)).drop j) i v.length hvl (by omega) (by omega) (by omega), e2] at h2
      have hs1 := qj g ((l.map (Value.int .u16)).drop j) (i + v.length) (W.drewN q)
      have hs2 := qj g (v.map (Value.int .u16)) i ((W.drewN q).setCells g (i + v.length) ((l.map (Value.int .u16)).drop j))
      obtain ⟨γ', κ', k1, k2, k3⟩ := hC.swap (b := ⟨55, 1, l.map (cK .u16)⟩) hb (g' := g) (k' := κ id) (rows' := (midL l v i j).map (cK .u16)) h2
        (fun x hx _ => (qk g x hx _ _ _).trans (qk g x hx _ _ _)) (by rw [hs2.2.2.2, hs1.2.2.2]; exact Nat.le_refl _) (hs2.1.trans hs1.1) (hs2.2.1.trans hs1.2.1) (hs2.2.2.1.trans hs1.2.2.1) (.inl hg)
        (fun _ => ⟨hg, rfl⟩) (by rw [hnew, hml, List.length_map]; omega) (qcp _) (qbt _) (by rw [hnew, hml]; omega) hmax' (by simp only [List.length_append, List.length_map, List.length_drop, hml]; show _ = κ id * 1; omega) hrep
      exact ⟨_, γ', κ', rfl, k1, hsub k2 (by omega)⟩
    · refine (qd4 g l.length (κ id) i j vb voff v.length vc _ _ W hij hj (by omega) (by omega) (by omega) (by omega) hll hvl hcs hvs (h1c l) (h1c v)).mono ?_
      rintro e W' ⟨q, rfl, rfl⟩
      rw [ht]
      have hge := grownCap_ge (W.drewN q) t (κ id) 55
      have hcm := grownCap_le_maxLen (W.drewN q) t (κ id) 55 (by unfold maxLen; omega)
      generalize grownCap (W.drewN q) t (κ id) 55 = G at hge hcm ⊢
      have h0 : ((W.drewN (q + 1)).alloc (.cells (((l.map (Value.int .u16)).take i).toArray ++ Builtin.zeroCells (Value.int .u16 0).cells (t - i) ++ Builtin.zeroCells (Value.int .u16 0).cells (G - t)) 55)).heap[W.heap.size]? = some (.cells (((l.map (Value.int .u16)).take i ++ (Builtin.zeroCells (Value.int .u16 0).cells (t - i) ++ Builtin.zeroCells (Value.int .u16 0).cells (G - t)).toList).toArray) 55 (0, 0)) := by
        have := q4 (W.drewN (q + 1)) (.cells (((l.map (Value.int .u16)).take i).toArray ++ Builtin.zeroCells (Value.int .u16 0).cells (t - i) ++ Builtin.zeroCells (Value.int .u16 0).cells (G - t)) 55 (0, 0))
        refine Eq.trans this ?_
        congr 2
        apply Array.toList_inj.1; simp
      have hzl : (Builtin.zeroCells (Value.int .u16 0).cells (t - i) ++ Builtin.zeroCells (Value.int .u16 0).cells (G - t)).toList.length = G - i := by
        simp [size_zeroCells, Value.cells]; omega
      generalize (Builtin.zeroCells (Value.int .u16 0).cells (t - i) ++ Builtin.zeroCells (Value.int .u16 0).cells (G - t)).toList = zs at h0 hzl
      have hA1 : ∀ x, x < W.heap.size → ((W.drewN (q + 1)).alloc (.cells (((l.map (Value.int .u16)).take i).toArray ++ Builtin.zeroCells (Value.int .u16 0).cells (t - i) ++ Builtin.zeroCells (Value.int .u16 0).cells (G - t)) 55)).heap[x]? = W.heap[x]? := fun x hx => Below.heap_alloc (W.drewN (q + 1)) _ x hx
      have hA2 : ((W.drewN (q + 1)).alloc (.cells (((l.map (Value.int .u16)).take i).toArray ++ Builtin.zeroCells (Value.int .u16 0).cells (t - i) ++ Builtin.zeroCells (Value.int .u16 0).cells (G - t)) 55)).heap.size = W.heap.size + 1 := by
        show (W.heap.push _).size = _
        simp
      have hA3 : ((W.drewN (q + 1)).alloc (.cells (((l.map (Value.int .u16)).take i).toArray ++ Builtin.zeroCells (Value.int .u16 0).cells (t - i) ++ Builtin.zeroCells (Value.int .u16 0).cells (G - t)) 55)).os = W.os ∧ ((W.drewN (q + 1)).alloc (.cells (((l.map (Value.int .u16)).take i).toArray ++ Builtin.zeroCells (Value.int .u16 0).cells (t - i) ++ Builtin.zeroCells (Value.int .u16 0).cells (G - t)) 55)).tape = W.tape ∧ ((W.drewN (q + 1)).alloc (.cells (((l.map (Value.int .u16)).take i).toArray ++ Builtin.zeroCells (Value.int .u16 0).cells (t - i) ++ Builtin.zeroCells (Value.int .u16 0).cells (G - t)) 55)).output = W.output := ⟨rfl, rfl, rfl⟩
      generalize (W.drewN (q + 1)).alloc (.cells (((l.map (Value.int .u16)).take i).toArray ++ Builtin.zeroCells (Value.int .u16 0).cells (t - i) ++ Builtin.zeroCells (Value.int .u16 0).cells (G - t)) 55) = WA at h0 hA1 hA2 hA3 ⊢
      have h1 := ql (v.map (Value.int .u16)) i WA _ h0 (by simp only [List.length_append, List.length_map, List.length_take]; omega)
      have hs1 := qj W.heap.size (v.map (Value.int .u16)) i WA
      have hf1 := fun x hx => qk W.heap.size x hx (v.map (Value.int .u16)) i WA
      have hB : (WA.setCells W.heap.size i (v.map (Value.int .u16))).drew.heap = (WA.setCells W.heap.size i (v.map (Value.int .u16))).heap ∧ (WA.setCells W.heap.size i (v.map (Value.int .u16))).drew.os = (WA.setCells W.heap.size i (v.map (Value.int .u16))).os ∧ (WA.setCells W.heap.size i (v.map (Value.int .u16))).drew.tape = (WA.setCells W.heap.size i (v.map (Value.int .u16))).tape ∧ (WA.setCells W.heap.size i (v.map (Value.int .u16))).drew.output = (WA.setCells W.heap.size i (v.map (Value.int .u16))).output := ⟨rfl, rfl, rfl, rfl⟩
      generalize (WA.setCells W.heap.size i (v.map (Value.int .u16))).drew = WB at hB ⊢
      generalize WA.setCells W.heap.size i (v.map (Value.int .u16)) = WB' at hB h1 hs1 hf1
      rw [← hB.1] at h1
      have h2 := ql ((l.map (Value.int .u16)).drop j) (i + v.length) WB _ h1 (by simp only [List.length_append, List.length_map, List.length_take, List.length_drop]; omega)
      rw [hvl, spliceC (l.map (Value.int .u16)) zs (v.map (Value.int .u16)) ((l.map (Value.int .u16)).drop j) i v.length hvl (by omega), e2] at h2
      have hs2 := qj W.heap.size ((l.map (Value.int .u16)).drop j) (i + v.length) WB
      have hf2 := fun x hx => qk W.heap.size x hx ((l.map (Value.int .u16)).drop j) (i + v.length) WB
      obtain ⟨γ', κ', k1, k2, k3⟩ := hC.swap (b := ⟨55, 1, l.map (cK .u16)⟩) hb (g' := W.heap.size) (k' := G) (rows' := (midL l v i j).map (cK .u16)) h2
        (fun x hx hlt => (hf2 x hx).trans ((by rw [hB.1]; exact hf1 x hx : WB.heap[x]? = WA.heap[x]?).trans (hA1 x hlt))) (by rw [hs2.2.2.2, hB.1, hs1.2.2.2, hA2]; omega) (hs2.1.trans (hB.2.1.trans (hs1.1.trans hA3.1))) (hs2.2.1.trans (hB.2.2.1.trans (hs1.2.1.trans hA3.2.1))) (hs2.2.2.1.trans (hB.2.2.2.trans (hs1.2.2.1.trans hA3.2.2))) (.inr (Nat.le_refl _))
        (fun e => by have e' : (l.map (cK .u16)).length = _ := e; rw [hnew, hml, List.length_map] at e'; omega) (by rw [hnew, hml, List.length_map]; omega) (qcp _) (qbt _) (by rw [hnew, hml]; omega) hcm (by simp only [List.length_append, List.length_map, List.length_drop, hml, hzl]; show _ = G * 1; omega) hrep
      exact ⟨_, γ', κ', rfl, k1, hsub k2 hge⟩
open Go.RowKit
set_option maxRecDepth 100000
set_option maxHeartbeats 4000000
theorem call180 : Callable Tryz.prog 180 := fun vs w => by
  unfold callFunc
  have hp : (program).run Tryz.prog w = .ok Tryz.prog w := rfl
  rw [run_bind hp, Tryz.func180]
  rfl
theorem qgk {M : Mm} {v : List Int} {x : Value} (h : RepA M (.imm (.sl (v.map u16))) x) : ∃ vA vc, x = .slice vA v.length vc ∧ (v.length = 0 ∨ ∃ vb voff, vA = some ⟨vb, voff, none⟩ ∧ ¬ M.N vb ∧ ∀ k y, (v.map (Value.int .u16))[k]? = some y → M.W.cell? ⟨vb, voff + k, none⟩ = some y) := by
  cases h with
  | imm _ _ h =>
    generalize hr : v.map u16 = rows at h
    cases h with
    | nil A c =>
      have hv : v = [] := List.map_eq_nil_iff.1 hr
      subst hv
      exact ⟨A, c, rfl, .inl rfl⟩
    | sl _ ad n c sz ys g0 hsz hn hc hb hrl hyc hrep =>
      subst hr
      have hlen : n = v.length := by rw [hn, List.length_map]
      subst hlen
      have e : ys = v.map (Value.int .u16) := by
        have key : ∀ {l : List Int} {zs : List Value}, All2 (RepI M.W M.N) (l.map u16).flatten zs → zs = l.map (Value.int .u16) := by
          intro l
          induction l with
          | nil => intro zs h; cases h; rfl
          | cons a l ih =>
            intro zs h
            cases h with
            | cons h1 h2 => rw [h1.int_inv, ih h2]; rfl
        exact key hrep
      subst e
      obtain ⟨blk, off, spot⟩ := ad
      have h0 : v ≠ [] := fun e => g0 (by rw [e]; rfl)
      have hs : spot = none := by
        have := hyc 0 ((v.map (Value.int .u16))[0]'(by simpa using List.length_pos_iff.2 h0)) (List.getElem?_eq_getElem _)
        obtain ⟨_, _, _, _, h⟩ := Go.Proofs.YtmhejcnaanocpaaGreat.A.cell_shape this
        unfold Addr.add at h
        cases spot with
        | none => rfl
        | some z => simp at h
      subst hs
      refine ⟨_, c, rfl, .inr ⟨blk, off, rfl, hb, fun k y hk => ?_⟩⟩
      have := hyc k y hk
      rwa [Addr.add_lit] at this
theorem GenC.sub {P : Program} {f : FuncId} {hp0 : List Blk} {args : List AV} {n : Nat} {b : Blk} (h : GenC P f hp0 args (.os 0 n) [b]) (hn : n = b.rows.length) (h0 : 0 < n) : GenC P f hp0 args (.sub 0 n 0 n) [b] := by
  refine ⟨h.1, fun W X γ κ xs hC hargs => (h.2 W X γ κ xs hC hargs).mono ?_⟩
  rintro e W' ⟨x, γ', κ', he, hC', hr⟩
  refine ⟨x, γ', κ', he, hC', ?_⟩
  have hb : ([b] : List Blk)[0]? = some b := rfl
  have e1 := hr.os_val hb hn
  subst e1
  have hB := hC'.blk 0 b hb
  rcases hB.mem with ⟨h1, h2, h3⟩ | ⟨g, ys, sp, h1, h2, h3, h4⟩
  · rw [hn, h2] at h0
    cases h0
  · refine .sub 0 n 0 n b _ _ hb (Nat.le_of_eq hn) (fun _ => ⟨by omega, fun _ => ⟨g, h1, ?_⟩⟩) ?_
    · have h1' : γ' 0 = some g := h1
      show (Option.map _ (γ' 0)) = _
      rw [h1']; simp
    · rw [hn]; exact hB.cap
theorem qoe (l v : List Int) (i : Int) (h0 : 0 ≤ i) (h1 : i < l.length) (hm : v ≠ []) (hl : l.length ≤ 1000000000) (hv : v.length ≤ 1000000000) : GenC Tryz.prog 180 [⟨55, 1, l.map cU⟩] [.os 0 l.length, iav i, .imm (.sl (v.map u16))] (.os 0 (l.length + v.length)) [⟨55, 1, (l.take i.toNat ++ v ++ l.drop i.toNat).map cU⟩] := by
  refine ⟨call180, fun W X γ κ xs hC hargs => ?_⟩
  obtain ⟨k, rfl⟩ : ∃ k : Nat, i = k := ⟨i.toNat, by omega⟩
  have hm0 : 0 < v.length := List.length_pos_iff.2 hm
  cases hargs with
  | cons a0 t =>
    cases t with
    | cons a1 t =>
      cases t with
      | cons a2 t =>
        cases t
        have e0 := a0.os_val (b := ⟨55, 1, l.map cU⟩) rfl (by simp)
        have e1 := qb1 a1
        obtain ⟨vA, vc, e2, hV⟩ := qgk a2
        rcases hV with hV | ⟨vb, voff, rfl, hN, hcell⟩
        · omega
        · subst e0 e1 e2
          exact coreU hC (id := 0) (l := l) (v := v) (i := k) rfl (by omega) hm0 hl hv (fun e => hN (.inr ⟨0, by simp, e⟩)) hcell
theorem srcUb {C : Cx} {s : St} {tx : TypeId} {y : Operand} (hT : TsOK C.P tab) {i : TI} (hi : look tab tx = some i) {e : TypeId} (hk : i.kd = .sl e) (d : List Int) (hy : s.ev y = some (.imm (.sl (d.map u16)))) : SrcA C s ti55 tx y (d.map cU) := by
  have := SrcA.imm (ie := ti55) hT hi hk hy (fun r hr => by
    obtain ⟨q, _, rfl⟩ := List.mem_map.1 hr
    rfl)
  rw [List.map_map] at this
  exact this
theorem qof (l v : List Int) (hm : v ≠ []) (hl : l.length ≤ 1000000000) (hv : v.length ≤ 1000000000) : GenC Tryz.prog 180 [⟨55, 1, l.map cU⟩] [.os 0 l.length, iav l.length, .imm (.sl (v.map u16))] (.os 0 (l.length + v.length)) [⟨55, 1, (l ++ v).map cU⟩] := by
  have hm0 : 0 < v.length := List.length_pos_iff.2 hm
  have hmv : (v.map u16).length = v.length := List.length_map _
  refine yah tabs Tryz.func180 95 [.tmp 6] rfl rfl rfl rfl rfl ?_; intro w0 X γ κ
  (repeat' (first | ((with_reducible show AL _ _ _ _ _); first | refine yae rfl (ybi (n := l.length) tabs rfl rfl rfl rfl rfl (qnw (b := ⟨55, 1, l.map cU⟩) rfl rfl (by simp)) rfl rfl) rfl ?_ | (refine yf tabs rfl ?_; try dsimp only [len, List.nil_append, List.cons_append]) | refine yae rfl (yau (b := ⟨55, 1, l.map cU⟩) tabs rfl rfl rfl rfl rfl rfl (by simp)) rfl ?_ | refine yae rfl (ybb (ie := ti55) (xs := l) (ys := v) (g := cU) (ty := 55) (sz := 1) tabs rfl rfl rfl rfl rfl rfl rfl rfl rfl rfl (srcUb tabs rfl rfl v rfl) (by simp only [ti55]; omega) (by omega)) rfl ?_ | refine yn ?_ | (refine AL.op rfl (yj rfl rfl rfl rfl rfl (by omega) (by omega)) ?_)) | ((with_reducible show DQ _ _ _ _ _ _); first | refine DQ.stepc (LS.val tabs rfl rfl rfl) rfl rfl rfl rfl rfl ?_ | refine DQ.stepc (yu rfl rfl) rfl rfl rfl rfl rfl ?_ | refine DQ.nilM (by kernel_rfl) ?_ | refine DQ.stepc (yad rfl rfl rfl rfl rfl rfl (by omega) (by omega)) rfl rfl rfl rfl rfl ?_) | (exfalso; omega) | refine ym ?_ | refine ya ?_ | refine yb ?_ | refine yg ?_ | refine yi rfl ?_ | refine yh rfl ?_ | (refine yk rfl (fun hc => ?_) (fun hc => ?_) <;> (try simp only [hsx] at hc) <;> (try first | omega | contradiction | (simp [qa] at hc; done))) | refine yo ?_ | refine yc ?_ | refine yr mixed (by kernel_rfl) ?_))
  exact yal 1 rfl (by rw [List.length_append]; rfl) rfl rfl (by simp only [List.all_cons, List.all_nil, Bool.and_true, List.all_map, Function.comp_def, cU, AV.sc1, AV.sc0, qh]) (by simp [cxG])
theorem qjm (b n c i m vc : Nat) (vA : Option Addr) (w : World) (Post : Ending → World → Prop) (hi : i ≤ n) (hnc : n ≤ c) (h : Calls Tryz.prog 180 #[.slice (some ⟨b, 0, none⟩) n c, .int .i64 i, .slice vA m vc] w Post) (hret : ∀ e w', Post e w' → ∃ x, e = .returned x) :
    Calls Tryz.prog 155 #[.slice (some ⟨b, 0, none⟩) n c, .int .i64 i, .int .i64 i, .slice vA m vc] w Post := by
  have mixed : Tryz.prog.follows .mixedOrders = true := by kernel_rfl
  have tS : Tryz.prog.underlying 36 = some (.slice 55) := Tryz.underlying36
  have tI : Tryz.prog.underlying 3 = some (.int .i64) := Tryz.underlying3
  have iE : (Tryz.prog.info? 55).map (fun i => (i.zero, i.size, i.bytes)) = some (some (Value.int .u16 0), 1, 2) := by kernel_rfl
  obtain ⟨i0, hi0, hz0, hzs, hzb⟩ := info_parts iE
  have hic : i ≤ c := by omega
  go_enter Tryz.func155, Tryz.ntmps155
  go_wp2_with (go_at_call 180; (with_reducible refine h.mono ?_); rintro e w' he; obtain ⟨x, hx⟩ := hret e w' he; subst hx)
  all_goals exact he
theorem qmh (l v all : List Int) (i : Int) (N : Nat) (h0 : 0 ≤ i) (h1 : i ≤ l.length) (hne : l ≠ []) (h : GenC Tryz.prog 180 [⟨55, 1, l.map cU⟩] [.os 0 l.length, iav i, .imm (.sl (v.map u16))] (.os 0 N) [⟨55, 1, all.map cU⟩]) : GenC Tryz.prog 155 [⟨55, 1, l.map cU⟩] [.os 0 l.length, iav i, iav i, .imm (.sl (v.map u16))] (.os 0 N) [⟨55, 1, all.map cU⟩] := by
  refine ⟨call155, fun W X γ κ xs hC hargs => ?_⟩
  obtain ⟨k, rfl⟩ : ∃ k : Nat, i = k := ⟨i.toNat, by omega⟩
  cases hargs with
  | cons a0 t =>
    cases t with
    | cons a1 t =>
      cases t with
      | cons a2 t =>
        cases t with
        | cons a3 t =>
          cases t
          have hh := h.2 W X γ κ _ hC (.cons a0 (.cons a1 (.cons a3 .nil)))
          have e0 := a0.os_val (b := ⟨55, 1, l.map cU⟩) rfl (by simp)
          have e1 := qb1 a1
          have e2 := qb1 a2
          obtain ⟨vA, vc, e3, _⟩ := qgk a3
          obtain ⟨g, sp, hg, hmem, hcap⟩ := ownU hC (id := 0) (l := l) rfl hne
          subst e0 e1 e2 e3
          have hg' : (St.mm ⟨[], [⟨55, 1, l.map cU⟩]⟩ (cxG Tryz.prog X [⟨55, 1, l.map cU⟩] γ κ W 0) γ κ W).γ 0 = some g := hg
          have hk' : (St.mm ⟨[], [⟨55, 1, l.map cU⟩]⟩ (cxG Tryz.prog X [⟨55, 1, l.map cU⟩] γ κ W 0) γ κ W).κ 0 = κ 0 := rfl
          rw [hg', hk'] at hh ⊢
          refine qjm g l.length (κ 0) k v.length vc vA W _ (by omega) (by omega) hh ?_
          rintro e w' ⟨x, _, _, he, _⟩
          exact ⟨x, he⟩
theorem qog (l v : List Int) (i j : Int) (h0 : 0 ≤ i) (hij : i < j) (h1 : j < l.length) (hl : l.length ≤ 1000000000) (hv : v.length ≤ 1000000000) : GenC Tryz.prog 155 [⟨55, 1, l.map cU⟩] [.os 0 l.length, iav i, iav j, .imm (.sl (v.map u16))] (.sub 0 (midL l v i.toNat j.toNat).length 0 (i.toNat + v.length + (l.length - j.toNat))) [⟨55, 1, (midL l v i.toNat j.toNat).map cU⟩] := by
  refine ⟨call155, fun W X γ κ xs hC hargs => ?_⟩
  obtain ⟨p, rfl⟩ : ∃ k : Nat, i = k := ⟨i.toNat, by omega⟩
  obtain ⟨q, rfl⟩ : ∃ k : Nat, j = k := ⟨j.toNat, by omega⟩
  cases hargs with
  | cons a0 t =>
    cases t with
    | cons a1 t =>
      cases t with
      | cons a2 t =>
        cases t with
        | cons a3 t =>
          cases t
          have e0 := a0.os_val (b := ⟨55, 1, l.map cU⟩) rfl (by simp)
          have e1 := qb1 a1
          have e2 := qb1 a2
          obtain ⟨vA, vc, e3, hV⟩ := qgk a3
          subst e0 e1 e2 e3
          refine coreMidU hC (id := 0) (l := l) (v := v) (i := p) (j := q) rfl (by omega) (by omega) hl hv ?_
          rcases hV with hV | ⟨vb, voff, h1, h2, h3⟩
          · exact .inl hV
          · exact .inr ⟨vb, voff, h1, fun e => h2 (.inr ⟨0, by simp, e⟩), h3⟩
theorem qni (l v : List Int) (i j : Int) (h0 : 0 ≤ i) (hij : i ≤ j) (h1 : j ≤ l.length) (hne : l ≠ []) (hn : i < j ∨ v ≠ []) (hl : l.length ≤ 1000000000) (hv : v.length ≤ 1000000000) :
    ∃ (all : List Int) (m : Nat), all.take m = l.take i.toNat ++ v ++ l.drop j.toNat ∧ GenC Tryz.prog 155 [⟨55, 1, l.map cU⟩] [.os 0 l.length, iav i, iav j, .imm (.sl (v.map u16))] (.sub 0 all.length 0 m) [⟨55, 1, all.map cU⟩] := by
  have hpos : 0 < l.length := List.length_pos_iff.2 hne
  by_cases he : i = j
  · subst he
    have hv0 : v ≠ [] := by rcases hn with h | h; omega; exact h
    have hvp : 0 < v.length := List.length_pos_iff.2 hv0
    by_cases hi : i < l.length
    · have hlen : (l.take i.toNat ++ v ++ l.drop i.toNat).length = l.length + v.length := by
        simp only [List.length_append, List.length_take, List.length_drop]; omega
      refine ⟨l.take i.toNat ++ v ++ l.drop i.toNat, l.length + v.length, List.take_of_length_le (by omega), ?_⟩
      have := (qmh l v _ i _ h0 h1 hne (qoe l v i h0 hi hv0 hl hv)).sub (by rw [List.length_map, hlen]) (by omega)
      rw [hlen]
      exact this
    · have hie : i = l.length := by omega
      subst hie
      have hlen : (l ++ v).length = l.length + v.length := List.length_append
      refine ⟨l ++ v, l.length + v.length, ?_, ?_⟩
      · rw [List.take_of_length_le (by omega)]; simp
      · have := (qmh l v _ l.length _ h0 h1 hne (qof l v hv0 hl hv)).sub (by rw [List.length_map, hlen]) (by omega)
        rw [hlen]
        exact this
  · by_cases hj : j < l.length
    · refine ⟨midL l v i.toNat j.toNat, i.toNat + v.length + (l.length - j.toNat), ?_, qog l v i j h0 (by omega) hj hl hv⟩
      unfold midL
      rw [List.take_append_of_le_length (by simp only [List.length_append, List.length_take, List.length_drop]; omega), List.take_of_length_le (by simp only [List.length_append, List.length_take, List.length_drop]; omega)]
    · have hje : j = l.length := by omega
      subst hje
      refine ⟨repL l v i.toNat, i.toNat + v.length, ?_, qn6 l v i h0 (by omega) hl hv⟩
      unfold repL
      rw [List.take_append_of_le_length (by simp; omega), List.take_of_length_le (by simp; omega)]
      simp
end Go.Proofs.YtmhejcnaanocpaaGreat.A
