/- Contracts: forest.done of a node's data that were none. -/
import Derived.Test.YtmhejcnaanocpaaGreatXRSGrpAU
import Derived.Test.YtmhejcnaanocpaaGreatXRSGrpAY
import Derived.Test.YtmhejcnaanocpaaGreatXRSGrpAX
import Derived.Test.YtmhejcnaanocpaaGreatXRSGrpAW
import Derived.Test.YtmhejcnaanocpaaGreatXRSGrpAR
namespace Go.Proofs.YtmhejcnaanocpaaGreat.A
set_option linter.unusedVariables false
set_option linter.unusedSimpArgs false
set_option maxRecDepth 100000
set_option maxHeartbeats 4000000
theorem qh0 (f : List Node) (p : Int) (hf : Fit f) (hp : 0 ≤ p) (hp1 : p < f.length) (hk : (atI f p).data = []) : GenC Tryz.prog 70 [⟨44, 16, []⟩] [fav f] (.agg [.os 0 f.length]) [⟨44, 16, rowsD f p .nocap⟩] := by
  refine qet f (rowsD f p .nocap) hf (by omega) (qas _ _ _) ?_ ?_ fun i h0 h1 => ?_
  · rw [List.all_eq_true]
    intro r hr
    rcases qdt hr with rfl | ⟨n, _, rfl⟩ <;> rfl
  · intro r hr
    rcases qdt hr with rfl | ⟨n, _, rfl⟩ <;> rfl
  · rw [qb5 f p _ hp hp1 i h0 h1]
    by_cases e : i = p
    · rw [if_pos e, ← e]
      exact qfo (atI f i) (hf.atI i h0 h1) (by rw [e]; exact hk)
    · rw [if_neg e]
      exact qa0 (atI f i) (hf.atI i h0 h1)
theorem qoh (v : List Int) (hm : v ≠ []) (hv : v.length ≤ 1000000000) : GenC Tryz.prog 180 [⟨55, 1, []⟩] [.nocap, iav 0, .imm (.sl (v.map u16))] (.os 0 v.length) [⟨55, 1, v.map cU⟩] := by
  have hm0 : 0 < v.length := List.length_pos_iff.2 hm
  have hmv : (v.map u16).length = v.length := List.length_map _
  have hmc : (v.map cU).length = v.length := List.length_map _
  refine yah tabs Tryz.func180 95 [.tmp 6] rfl rfl rfl rfl rfl ?_; intro w0 X γ κ
  (repeat' (first | ((with_reducible show AL _ _ _ _ _); first | refine yae rfl (ybi (n := 0) tabs rfl rfl rfl rfl rfl (qc5 rfl) rfl rfl) rfl ?_ | (refine yf tabs rfl ?_; try dsimp only [len, List.nil_append, List.cons_append]) | refine yae rfl (ybe tabs rfl rfl rfl rfl rfl) rfl ?_ | refine yae rfl (yas 0 (ie := ti55) tabs rfl rfl rfl rfl rfl (by decide) rfl rfl rfl (rows2 := v.map cU) (by simpa using hm) (srcUb tabs rfl rfl v rfl) (by simp only [ti55]; omega) (by omega)) rfl ?_ | refine yn ?_ | (refine AL.op rfl (yj rfl rfl rfl rfl rfl (by omega) (by omega)) ?_)) | ((with_reducible show DQ _ _ _ _ _ _); first | refine DQ.stepc (LS.val tabs rfl rfl rfl) rfl rfl rfl rfl rfl ?_ | refine DQ.stepc (yu rfl rfl) rfl rfl rfl rfl rfl ?_ | refine DQ.nilM (by kernel_rfl) ?_ | refine DQ.stepc (yad rfl rfl rfl rfl rfl rfl (by omega) (by omega)) rfl rfl rfl rfl rfl ?_) | (exfalso; omega) | refine ym ?_ | refine ya ?_ | refine yb ?_ | refine yg ?_ | refine yi rfl ?_ | refine yh rfl ?_ | (refine yk rfl (fun hc => ?_) (fun hc => ?_) <;> (try simp only [hsx] at hc) <;> (try first | omega | contradiction | (simp [qa] at hc; done))) | refine yo ?_ | refine yc ?_ | refine yr mixed (by kernel_rfl) ?_))
  exact yal 1 rfl (by show AV.os 0 (v.map cU).length = _; rw [hmc]) rfl rfl (by simp only [List.all_cons, List.all_nil, Bool.and_true, List.all_map, Function.comp_def, cU, AV.sc1, AV.sc0, qh]) (by simp [cxG])
theorem qoi (v : List Int) (hm : v ≠ []) (hv : v.length ≤ 1000000000) : GenC Tryz.prog 155 [⟨55, 1, []⟩] [.nocap, iav 0, iav 0, .imm (.sl (v.map u16))] (.os 0 v.length) [⟨55, 1, v.map cU⟩] := by
  have h := qoh v hm hv
  refine yah tabs Tryz.func155 224 [.tmp 8] rfl rfl rfl rfl rfl ?_; intro w0 X γ κ
  (repeat' (first | ((with_reducible show AL _ _ _ _ _); first | refine yae rfl (ybi (n := 0) tabs rfl rfl rfl rfl rfl (qc5 rfl) rfl rfl) rfl ?_ | (refine yf tabs rfl ?_; try dsimp only [len, List.nil_append, List.cons_append]) | refine yz [0] 1 rfl rfl rfl rfl rfl (caps := []) rfl h rfl rfl rfl rfl rfl rfl (by simp only [List.all_cons, List.all_nil, List.all_map, Function.comp_def, cI, cB, cU, iav, bav, AV.sc1, AV.sc0, Bool.and_true, Bool.and_self, qh]; try rfl) rfl (hpA := [⟨55, 1, v.map cU⟩]) (by simp only [List.map_cons, List.map_nil, qbf]) (r' := .os 0 v.length) rfl rfl ?_ | refine yn ?_ | (refine AL.op rfl (yj rfl rfl rfl rfl rfl (by omega) (by omega)) ?_)) | ((with_reducible show DQ _ _ _ _ _ _); first | refine DQ.stepc (LS.val tabs rfl rfl rfl) rfl rfl rfl rfl rfl ?_ | refine DQ.stepc (yu rfl rfl) rfl rfl rfl rfl rfl ?_ | refine DQ.nilM (by kernel_rfl) ?_ | refine DQ.stepc (yad rfl rfl rfl rfl rfl rfl (by omega) (by omega)) rfl rfl rfl rfl rfl ?_) | refine ym ?_ | refine ya ?_ | refine yb ?_ | refine yg ?_ | refine yi rfl ?_ | refine yh rfl ?_ | (refine yk rfl (fun hc => ?_) (fun hc => ?_) <;> (try simp only [hsx] at hc) <;> (try first | omega | contradiction | (simp [qa] at hc; done))) | refine yo ?_ | refine yc ?_ | refine yr mixed (by kernel_rfl) ?_))
  exact yal 1 rfl rfl rfl rfl (by simp only [List.all_cons, List.all_nil, List.all_map, Function.comp_def, cI, cB, cU, iav, bav, AV.sc1, AV.sc0, Bool.and_true, Bool.and_self, qh]; try rfl) (by simp [cxG])
theorem at_n (f : List Node) (p : Int) (hf : Fit f) (hp : 0 ≤ p) (hp1 : p < f.length) : GenC Tryz.prog 145 [⟨44, 16, rowsD f p .nocap⟩, ⟨55, 1, []⟩] [.agg [.os 0 f.length], iav (p + 1)] (.tup [.agg (nodeRowD (atI f p) .nocap), bav true]) [⟨44, 16, rowsD f p .nocap⟩, ⟨55, 1, []⟩] := by
  have hl := hf.len
  have hR := qas f p .nocap
  have hsc : (rowsD f p .nocap).all (fun r => r.all (AV.sc1 2)) = true := q0 f _ _ 2 rfl
  have hat : atI (rowsD f p .nocap) (p + 1 - 1) = nodeRowD (atI f p) .nocap := by
    rw [show p + 1 - 1 = p by omega, qb5 f _ _ (by omega) (by omega) _ (by omega) (by omega), if_pos rfl]
  have gat := qak (by omega) (by omega) hat
  refine yah tabs Tryz.func145 22 [.cell 4 44, .tmp 5] rfl rfl rfl rfl rfl ?_; intro w0 X γ κ
  (repeat' (first | ((with_reducible show AL _ _ _ _ _); first | (refine yf tabs rfl ?_; try dsimp only [len, List.nil_append, List.cons_append]) | refine yae rfl (yau (b := ⟨44, 16, rowsD f p .nocap⟩) tabs rfl rfl rfl rfl rfl rfl hR.symm) rfl ?_ | (refine AL.op rfl (yj rfl rfl rfl rfl rfl (by omega) (by omega)) ?_) | refine yae rfl (yan (b := ⟨44, 16, rowsD f p .nocap⟩) tabs rfl rfl rfl rfl rfl rfl rfl rfl hR.symm rfl (by omega) (by omega)) rfl ?_ | refine yae rfl (ya4 (i := ti44) (r := nodeRowD (atI f p) .nocap) (b := ⟨44, 16, rowsD f p .nocap⟩) (row := (p + 1 - 1).toNat) tabs rfl rfl rfl rfl rfl hR.symm gat rfl) rfl ?_ | refine yn ?_ | (refine yq rfl rfl rfl (fun hc => ?_) (fun hc => ?_) <;> (fail_if_success (exact absurd hc (by decide))) <;> (try simp only [hsx] at hc) <;> (try first | omega | contradiction | (simp [qa] at hc; done))) | (refine AL.op rfl (yj rfl rfl rfl rfl rfl (by omega) (by omega)) ?_) | (refine AL.op rfl (ye tabs rfl rfl rfl rfl rfl rfl rfl (fun _ => rfl) (by decide) (by omega) (by omega)) ?_)) | refine ym ?_ | refine ya ?_ | refine yb ?_ | refine yg ?_ | refine yi rfl ?_ | refine yh rfl ?_ | (refine yk rfl (fun hc => ?_) (fun hc => ?_) <;> (try simp only [hsx] at hc) <;> (try first | omega | contradiction | (simp [qa] at hc; done))) | refine yo ?_ | refine yc ?_))
  all_goals first
    | (exfalso; omega)
    | (refine yal 2 rfl rfl rfl rfl ?_ (by simp [cxG])
       simp only [qax]
       exact hsc)
theorem qlm (f : List Node) (c : Change) (all : List Int) (m : Nat) (hf : Fit f) (h1 : 1 ≤ c.node) (h2 : c.node ≤ f.length) (hd : (traitsOf (atI f (c.node - 1)).kind).data = true)
    (ho0 : 0 ≤ c.offset) (hc0 : 0 ≤ c.count) (hoc : c.offset + c.count ≤ (atI f (c.node - 1)).data.length) (hde : (atI f (c.node - 1)).data = [])
    (hrep : GenC Tryz.prog 155 [⟨55, 1, []⟩] [.nocap, iav c.offset, iav (c.offset + c.count), .imm (.sl (c.data.map u16))] (.sub 0 all.length 0 m) [⟨55, 1, all.map cU⟩]) :
    GenC Tryz.prog 120 [⟨24, 1, [[.os 1 f.length]]⟩, ⟨44, 16, rowsD f (c.node - 1) .nocap⟩, ⟨55, 1, []⟩] [.ptr 0 1 0 0, c.av] (bav true)
      [⟨24, 1, [[.os 1 f.length]]⟩, ⟨44, 16, rowsD f (c.node - 1) (.sub 2 all.length 0 m)⟩, ⟨55, 1, all.map cU⟩] := by
  have hl := hf.len
  obtain ⟨nd, hnd⟩ : ∃ nd, nd = atI f (c.node - 1) := ⟨_, rfl⟩
  have hfn : nd.data.length ≤ 1000000000 := by rw [hnd]; exact (hf.atI (c.node - 1) (by omega) (by omega)).data
  have hR := qas f (c.node - 1) .nocap
  have hat := at_n f (c.node - 1) hf (by omega) (by omega)
  rw [show c.node - 1 + 1 = c.node by omega, ← hnd] at hat
  have hpar : atI (rowsD f (c.node - 1) .nocap) (c.node - 1) = nodeRowD nd .nocap := by
    rw [qb5 f _ _ (by omega) (by omega) _ (by omega) (by omega), if_pos rfl, hnd]
  have gpar := qak (by omega) (by omega) hpar
  rw [hde] at hoc
  have hoc0 : c.offset + c.count ≤ 0 := hoc
  have hoff : c.offset = 0 := by omega
  have hcnt : c.count = 0 := by omega
  rw [← hnd] at hd
  have hset : (rowsD f (c.node - 1) .nocap).set (c.node - 1).toNat (nodeRowD nd (.sub 2 all.length 0 m)) = rowsD f (c.node - 1) (.sub 2 all.length 0 m) := by
    unfold rowsD
    rw [List.set_set, hnd]
  have hsc : ∀ k, 3 ≤ k → (rowsD f (c.node - 1) .nocap).all (fun r => r.all (AV.sc1 k)) = true := fun k hk => q0 f _ _ k rfl
  refine yah tabs Tryz.func120 75 [.tmp 4] rfl rfl rfl rfl rfl ?_; intro w0 X γ κ
  refine AW.reserve 44 16 rfl ?_
  (repeat' (first | ((with_reducible show AL _ _ _ _ _); first | (refine yf tabs rfl ?_; try dsimp only [len, List.nil_append, List.cons_append]) | refine AL.op rfl (yd rfl rfl rfl rfl (qc6 nd.kind) rfl) ?_ | refine yae rfl (ybe tabs rfl rfl rfl rfl rfl) rfl ?_ | refine yn ?_ | (refine yq rfl rfl rfl (fun hc => ?_) (fun hc => ?_) <;> (fail_if_success (exact absurd hc (by decide))) <;> (try simp only [hsx] at hc) <;> (try first | omega | contradiction | (simp [qa] at hc; done))) | (refine AL.op rfl (yj rfl rfl rfl rfl rfl (by omega) (by omega)) ?_) | (refine AL.op rfl (ye tabs rfl rfl rfl rfl rfl rfl rfl (fun _ => rfl) (by decide) (by omega) (by omega)) ?_)) | ((with_reducible show DQ _ _ _ _ _ _); first | refine DQ.stepc (LS.alloc 3 tabs rfl rfl rfl rfl rfl rfl) rfl rfl rfl rfl rfl ?_ | refine DQ.stepc (LS.store (i := ti44) (v := .agg (nodeRowD nd .nocap)) (ty := 44) (sz := 16) (rows := [ti44.zero]) (r := ti44.zero) tabs rfl rfl rfl rfl rfl rfl rfl rfl rfl rfl (Nat.le_of_ble_eq_true rfl) rfl) rfl rfl rfl rfl rfl ?_ | refine DQ.stepc (yar (b := ⟨44, 16, rowsD f (c.node - 1) .nocap⟩) tabs rfl rfl rfl rfl rfl rfl rfl rfl rfl hR.symm rfl (by omega) (by omega)) rfl rfl rfl rfl rfl ?_ | refine DQ.stepc (yay (b := ⟨44, 16, rowsD f (c.node - 1) .nocap⟩) tabs rfl rfl rfl rfl rfl rfl rfl rfl rfl hR.symm) rfl rfl rfl rfl rfl ?_ | refine DQ.stepc (LS.store (i := ti36) (v := .sub 2 all.length 0 m) (ty := 44) (sz := 16) (rows := rowsD f (c.node - 1) .nocap) (r := nodeRowD nd .nocap) tabs rfl rfl rfl rfl rfl rfl rfl hR.symm rfl rfl (by decide) gpar) rfl rfl rfl rfl rfl ?_ | refine DQ.stepc (LS.val tabs rfl rfl rfl) rfl rfl rfl rfl rfl ?_ | refine DQ.stepc (yu rfl rfl) rfl rfl rfl rfl rfl ?_ | refine DQ.nilM (by kernel_rfl) ?_ | refine DQ.stepc (yad rfl rfl rfl rfl rfl rfl (by omega) (by omega)) rfl rfl rfl rfl rfl ?_ | refine DQ.stepc (yw tabs rfl rfl rfl rfl rfl rfl rfl rfl (fun _ => rfl) (by decide) (by omega) (by omega)) rfl rfl rfl rfl rfl ?_ | (refine DQ.gsplitE rfl rfl rfl (fun hc => ?_) (fun hc => ?_) <;> (fail_if_success (exact absurd hc (by decide))) <;> (try simp only [hsx] at hc) <;> (try first | omega | contradiction | (simp [qa] at hc; done)))) | ((with_reducible show M2.DQ _ _ _ _ _ _); first | refine M2.DQ.step2 (M2.LS.callG [1, 2] (caps := []) rfl rfl rfl rfl rfl hat (fun _ => rfl) (bs := [⟨44, 16, rowsD f (c.node - 1) .nocap⟩, ⟨55, 1, []⟩]) rfl (fun n => by simp only [List.map_cons, List.map_nil, qah]; rfl) rfl rfl (by simp only [qax]; exact q0 _ _ _ _ rfl) rfl (by simp only [qax]; exact q0 _ _ _ _ rfl) rfl (hpA := [⟨44, 16, rowsD f (c.node - 1) .nocap⟩, ⟨55, 1, []⟩]) (fun n => by simp only [List.map_cons, List.map_nil, qah]; rfl) (r' := .tup [.agg (nodeRowD nd .nocap), bav true]) (fun _ => rfl)) rfl rfl rfl rfl rfl ?_ | refine M2.DQ.step2 (M2.LS.callG [2] (caps := []) rfl rfl rfl rfl rfl hrep (fun _ => rfl) (bs := [⟨55, 1, []⟩]) rfl (fun n => rfl) rfl rfl rfl rfl (by simp only [List.all_cons, List.all_nil, List.all_map, Function.comp_def, cI, cB, cU, iav, bav, AV.sc1, AV.sc0, Bool.and_true, Bool.and_self, qh]; try rfl) rfl (hpA := [⟨55, 1, all.map cU⟩]) (fun n => by simp only [List.map_cons, List.map_nil, qbf]) (r' := .sub 2 all.length 0 m) (fun _ => rfl)) rfl rfl rfl rfl rfl ?_ | refine M2.DQ.stepc (LS.alloc 3 tabs rfl rfl rfl rfl rfl rfl) rfl rfl rfl rfl rfl ?_ | refine M2.DQ.stepc (LS.store (i := ti44) (v := .agg (nodeRowD nd .nocap)) (ty := 44) (sz := 16) (rows := [ti44.zero]) (r := ti44.zero) tabs rfl rfl rfl rfl rfl rfl rfl rfl rfl rfl (Nat.le_of_ble_eq_true rfl) rfl) rfl rfl rfl rfl rfl ?_ | refine M2.DQ.stepc (yar (b := ⟨44, 16, rowsD f (c.node - 1) .nocap⟩) tabs rfl rfl rfl rfl rfl rfl rfl rfl rfl hR.symm rfl (by omega) (by omega)) rfl rfl rfl rfl rfl ?_ | refine M2.DQ.stepc (yay (b := ⟨44, 16, rowsD f (c.node - 1) .nocap⟩) tabs rfl rfl rfl rfl rfl rfl rfl rfl rfl hR.symm) rfl rfl rfl rfl rfl ?_ | refine M2.DQ.stepc (LS.store (i := ti36) (v := .sub 2 all.length 0 m) (ty := 44) (sz := 16) (rows := rowsD f (c.node - 1) .nocap) (r := nodeRowD nd .nocap) tabs rfl rfl rfl rfl rfl rfl rfl hR.symm rfl rfl (by decide) gpar) rfl rfl rfl rfl rfl ?_ | refine M2.DQ.stepc (LS.val tabs rfl rfl rfl) rfl rfl rfl rfl rfl ?_ | refine M2.DQ.stepc (yu rfl rfl) rfl rfl rfl rfl rfl ?_ | refine M2.DQ.nilM (by kernel_rfl) ?_ | refine M2.DQ.stepc (yad rfl rfl rfl rfl rfl rfl (by omega) (by omega)) rfl rfl rfl rfl rfl ?_ | refine M2.DQ.stepc (yw tabs rfl rfl rfl rfl rfl rfl rfl rfl (fun _ => rfl) (by decide) (by omega) (by omega)) rfl rfl rfl rfl rfl ?_ | (refine M2.DQ.gsplitE rfl rfl rfl (fun hc => ?_) (fun hc => ?_) <;> (fail_if_success (exact absurd hc (by decide))) <;> (try simp only [hsx] at hc) <;> (try first | omega | contradiction | (simp [qa] at hc; done)))) | (exfalso; omega) | refine M2.drawW (id := 1) mixed (by kernel_rfl) ?_ | refine M2.drawW (id := 4) mixed (by kernel_rfl) ?_ | refine ym ?_ | refine ya ?_ | refine yb ?_ | refine yg ?_ | refine yi rfl ?_ | refine yh rfl ?_ | (refine yk rfl (fun hc => ?_) (fun hc => ?_) <;> (try simp only [hsx] at hc) <;> (try first | omega | contradiction | (simp [qa] at hc; done))) | refine yo ?_ | refine yc ?_ | refine yr mixed (by kernel_rfl) ?_))
  all_goals first
    | (exfalso; omega)
    | (refine yal 3 rfl rfl (by rw [← hset]; rfl) rfl ?_ (by simp [cxG])
       simp only [qax]
       exact ⟨rfl, q0 _ _ _ _ rfl, (by simp only [List.all_cons, List.all_nil, List.all_map, Function.comp_def, cI, cB, cU, iav, bav, AV.sc1, AV.sc0, Bool.and_true, Bool.and_self, qh]; try rfl)⟩)
    | (exfalso; rw [hd] at hc; cases hc)
theorem qnj (f : List Node) (c : Change) (all : List Int) (m : Nat) (hf : Fit f) (hck : c.kind = 5) (hcp : plainDa c = c) (hdl : c.data.length ≤ 1000000000) (h1 : 1 ≤ c.node) (h2 : c.node ≤ f.length) (hd : (traitsOf (atI f (c.node - 1)).kind).data = true)
    (ho0 : 0 ≤ c.offset) (hc0 : 0 ≤ c.count) (hoc : c.offset + c.count ≤ (atI f (c.node - 1)).data.length) (hne : (atI f (c.node - 1)).data = []) (hnl : (all.take m).length ≤ 1000000000)
    (hrep : GenC Tryz.prog 155 [⟨55, 1, []⟩] [.nocap, iav c.offset, iav (c.offset + c.count), .imm (.sl (c.data.map u16))] (.sub 0 all.length 0 m) [⟨55, 1, all.map cU⟩]) :
    PureC Tryz.prog 71 [fav f, c.av] (.tup [fav (doneW f c.node (all.take m)).1, iav (doneW f c.node (all.take m)).2]) := by
  have hsame : PureC Tryz.prog 96 [c.av, (plainDa c).av] (bav true) := by
    rw [hcp]
    exact qad c hdl (by rw [← hcp]; exact fit0) (by rw [← hcp]; simp [plainDa, c0]) (by rw [← hcp]; simp [plainDa, c0]) (by omega) (by omega)
  have hins := qlm f c all m hf h1 h2 hd ho0 hc0 hoc hne hrep
  have hfst : ∀ j : Nat, j < 4 → stepKeys[j]? ≠ some c.kind := by
    intro j hj
    rw [hck]
    match j, hj with
    | 0, _ => decide
    | 1, _ => decide
    | 2, _ => decide
    | 3, _ => decide
  have hfi : Fit (datF f c.node (all.take m)) := by
    have := hf.atI (c.node - 1) (by omega) (by omega)
    exact qby hf ⟨hnl, this.attrs, this.kids⟩
  have fzW : ∀ {C : Cx} {s : St}, nth s.hp 0 = some ⟨44, 16, rowsD f (c.node - 1) (.sub 1 all.length 0 m)⟩ → nth s.hp 1 = some ⟨55, 1, all.map cU⟩ → Fz C s (.agg [.os 0 f.length]) (fav (datF f c.node (all.take m))) := by
    intro C s g1 g2
    exact fzD (by omega) (by omega) g1 g2
  refine yp tabs Tryz.func71 51 [.cell 4 24, .tmp 5] rfl rfl rfl rfl rfl ?_; intro w0 X
  refine AW.reserve 44 16 rfl ?_
  refine AW.reserve 55 1 rfl ?_
  refine AW.reserve 126 4 rfl ?_
  (repeat' (first | ((with_reducible show AL _ _ _ _ _); first | (refine yf tabs rfl ?_; try dsimp only [len, List.nil_append, List.cons_append]) | refine yz [0] 6 rfl rfl rfl rfl rfl (caps := []) rfl (qh0 f (c.node - 1) hf (by omega) (by omega) hne) rfl rfl rfl rfl rfl rfl (by simp only [List.all_cons, List.all_nil, Bool.and_true]; exact q0 _ _ _ _ rfl) rfl (hpA := [⟨44, 16, rowsD f (c.node - 1) .nocap⟩]) (by simp only [List.map_cons, List.map_nil, qah]; rfl) (r' := .agg [.os 0 f.length]) rfl rfl ?_ | refine yz [6, 0, 1] 7 rfl rfl rfl rfl rfl (caps := []) rfl hins rfl (by simp only [List.map_cons, List.map_nil, qah]; rfl) rfl rfl (by simp only [qax]; exact ⟨rfl, q0 _ _ _ _ rfl⟩) rfl (by simp only [qax]; exact ⟨rfl, q0 _ _ _ _ rfl, (by simp only [List.all_cons, List.all_nil, List.all_map, Function.comp_def, cI, cB, cU, iav, bav, AV.sc1, AV.sc0, Bool.and_true, Bool.and_self, qh]; try rfl)⟩) rfl (hpA := [⟨24, 1, [[.os 0 f.length]]⟩, ⟨44, 16, rowsD f (c.node - 1) (.sub 1 all.length 0 m)⟩, ⟨55, 1, all.map cU⟩]) (by simp only [List.map_cons, List.map_nil, qah, qbf]; rfl) (r' := bav true) rfl rfl ?_ | refine AL.op rfl (yat rfl rfl rfl rfl (.cons (fzW rfl rfl) .nil) (qbc (datF f c.node (all.take m)) hfi) rfl) ?_ | refine yn ?_ | (refine yq rfl rfl rfl (fun hc => ?_) (fun hc => ?_) <;> (fail_if_success (exact absurd hc (by decide))) <;> (try simp only [hsx] at hc) <;> (try first | omega | contradiction | (simp [qa] at hc; done)))) | ((with_reducible show DQ _ _ _ _ _ _); first | refine DQ.stepc (yai rfl rfl rfl rfl rfl qbr rfl) rfl rfl rfl rfl rfl ?_ | refine DQ.stepc (yba (kf := k8) (q := c.kind) (xs := stepKeys) (i := 4) (v := [.fn 119, .fn 120, .bool false, .fn 121]) key56 Tryz.underlying128 zero126 rfl rfl rfl rfl rfl rfl (by rw [hck]; rfl) hfst rfl) rfl rfl rfl rfl rfl ?_ | refine DQ.stepc (LS.alloc 2 tabs rfl rfl rfl rfl rfl rfl) rfl rfl rfl rfl rfl ?_ | refine DQ.stepc (LS.store (i := ti126) (v := .agg [.imm (.fn 119), .imm (.fn 120), .imm (.bool false), .imm (.fn 121)]) (ty := 126) (sz := 4) (rows := [ti126.zero]) (r := ti126.zero) tabs rfl rfl rfl rfl rfl rfl rfl rfl rfl rfl (Nat.le_of_ble_eq_true rfl) rfl) rfl rfl rfl rfl rfl ?_ | refine DQ.stepc (yai rfl rfl rfl rfl rfl (qcj c) rfl) rfl rfl rfl rfl rfl ?_ | refine DQ.stepc (yai rfl rfl rfl rfl rfl hsame rfl) rfl rfl rfl rfl rfl ?_ | refine DQ.stepc (LS.val tabs rfl rfl rfl) rfl rfl rfl rfl rfl ?_ | refine DQ.stepc (yu rfl rfl) rfl rfl rfl rfl rfl ?_ | refine DQ.nilM (by kernel_rfl) ?_ | (refine DQ.gsplitE rfl rfl rfl (fun hc => ?_) (fun hc => ?_) <;> (fail_if_success (exact absurd hc (by decide))) <;> (try simp only [hsx] at hc) <;> (try first | omega | contradiction | (simp [qa] at hc; done)))) | refine ym ?_ | refine ya ?_ | refine yb ?_ | refine yg ?_ | refine yi rfl ?_ | refine yh rfl ?_ | (refine yk rfl (fun hc => ?_) (fun hc => ?_) <;> (try simp only [hsx] at hc) <;> (try first | omega | contradiction | (simp [qa] at hc; done))) | refine yo ?_ | refine yc ?_ | refine yr mixed (by kernel_rfl) ?_))
  all_goals first
    | (rw [show doneW f c.node (all.take m) = ([], 2) by unfold doneW; rw [if_neg (by rw [qc]; exact hc)]]; exact RQ.fin rfl rfl rfl)
    | (rw [show doneW f c.node (all.take m) = (datF f c.node (all.take m), 0) by unfold doneW; rw [if_pos (by rw [qc]; exact hc)]]; exact yap rfl (ya5 (.cons (fzW rfl rfl) (.cons (Fz.im rfl) .nil))))
def repD (l : List Int) (off cnt : Int) (v : List Int) : List Int := l.take off.toNat ++ v ++ l.drop (off + cnt).toNat
noncomputable def doneG (f : List Node) (c : Change) : List Node × Int :=
  if c.kind = 1 then doneM f c.made
  else if c.kind = 2 then doneA f c
  else if c.kind = 5 then doneW f c.node (repD (atI f (c.node - 1)).data c.offset c.count c.data)
  else if c.kind = 8 then (if ([c.node, c.other].all fun h => inB f h) = true then (f, 0) else ([], 2))
  else (if dec (treeP f c) = true then (f, 0) else ([], 2))
def daCh (node off cnt : Int) (v : List Int) : Change := { c0 with kind := 5, node := node, offset := off, count := cnt, data := v }
inductive CanCh (f : List Node) : Change → Prop
  | mk (n : Node) (hn : FitN n) (h12 : n.kind ≠ 12) : CanCh f (mkCh (f.length + 1) n)
  | ins (x p i : Int) (hx : inR f x) (hp : inR f p) (h0 : 0 ≤ i) (h1 : i ≤ (nodeAt f p).kids.length) (hp0 : (nodeAt f x).parent = 0) : CanCh f (inCh x p i)
  | dat (h off cnt : Int) (v : List Int) (hh : inR f h) (hd : (traitsOf (nodeAt f h).kind).data = true) (h0 : 0 ≤ off) (h1 : 0 ≤ cnt) (h2 : off + cnt ≤ (nodeAt f h).data.length) (hv : v.length ≤ 1000000) (ho : ((nodeAt f h).data.length : Int) - cnt + v.length ≤ 1000000) : CanCh f (daCh h off cnt v)
  | spl (a b c : Int) : CanCh f (splitCh a b c)
  | tree (a b c d : Int) : CanCh f (treeCh a b c d)
theorem qln (l : List Int) (off cnt : Int) (v : List Int) (h0 : 0 ≤ off) (h2 : off + cnt = l.length) (h1 : 0 ≤ cnt) : repD l off cnt v = l.take off.toNat ++ v := by
  unfold repD
  rw [List.drop_eq_nil_of_le (by omega), List.append_nil]
theorem qjn {f : List Node} {h : Int} (hh : inR f h) : datF f h (atI f (h - 1)).data = f := by
  unfold datF updAt
  have h1 := hh.1
  have h2 := hh.2
  have := qev f (h - 1) (by omega) (by omega)
  exact this
theorem qjo (f : List Node) (c : Change) (hf : Fit f) (hr : rightP f) (h0 : 0 < f.length) (hc : CanCh f c) : PureC Tryz.prog 71 [fav f, c.av] (.tup [fav (doneG f c).1, iav (doneG f c).2]) := by
  cases hc with
  | mk n hn h12 =>
    rw [show doneG f (mkCh (f.length + 1) n) = doneM f n from rfl]
    exact qm1 f n hf hn h0 h12
  | ins x p i hx hp i0 i1 hp0 =>
    rw [show doneG f (inCh x p i) = doneA f (inCh x p i) from rfl]
    have h1 := hx.1
    have h2 := hx.2
    have h3 := hp.1
    have h4 := hp.2
    rw [qx hp] at i1
    rw [qx hx] at hp0
    have hkl := (hf.atI (p - 1) (by omega) (by omega)).kids
    have hfew := qco hr p
    rw [qx hp] at hfew
    by_cases hi : i < (atI f (p - 1)).kids.length
    · exact qlc f (inCh x p i) hf h0 rfl rfl (by show (atI f (p - 1)).kids.length < _; omega) h1 h2 h3 h4 i0 hi hp0
    · have hi' : i = (atI f (p - 1)).kids.length := by omega
      have e : doneA f (inCh x p i) = doneI f (inCh x p i) := by
        unfold doneA doneI
        rw [show insFM f (inCh x p i).node (inCh x p i).parent (inCh x p i).index = insF f (inCh x p i).node (inCh x p i).parent by rw [show (inCh x p i).index = (atI f ((inCh x p i).parent - 1)).kids.length from hi']; exact qi6 _ _ _]
      rw [e]
      by_cases hk : (atI f (p - 1)).kids = []
      · exact qkz f (inCh x p i) hf h0 rfl rfl (by show (atI f (p - 1)).kids.length < _; omega) h1 h2 h3 h4 hi' hk hp0
      · exact qky f (inCh x p i) hf h0 rfl rfl (by show (atI f (p - 1)).kids.length < _; omega) h1 h2 h3 h4 hi' hk hp0
  | dat h off cnt v hh hd o0 c0' oc hv ho =>
    rw [show doneG f (daCh h off cnt v) = doneW f h (repD (atI f (h - 1)).data off cnt v) from rfl]
    rw [qx hh] at hd oc ho
    have h1 := hh.1
    have h2 := hh.2
    have hdl := (hf.atI (h - 1) (by omega) (by omega)).data
    by_cases hc0 : 0 < cnt ∨ v ≠ []
    · by_cases hne : (atI f (h - 1)).data = []
      · rw [hne] at oc ho
        have hoff : off = 0 := by simp at oc; omega
        have hcnt : cnt = 0 := by simp at oc; omega
        subst hoff hcnt
        have hv0 : v ≠ [] := by
          rcases hc0 with h' | h'
          · omega
          · exact h'
        have hvp : 0 < v.length := List.length_pos_iff.2 hv0
        have hrep := (qoi v hv0 (by omega)).sub (by simp) hvp
        have := qnj f (daCh h 0 0 v) v v.length hf rfl rfl (by show v.length ≤ _; omega) h1 h2 hd o0 c0' (by show (0 : Int) + 0 ≤ _; omega) hne (by rw [List.take_of_length_le (Nat.le_refl _)]; omega) hrep
        rw [List.take_of_length_le (Nat.le_refl _), show (daCh h 0 0 v).node = h from rfl] at this
        rw [hne, show repD [] 0 0 v = v by simp [repD]]
        exact this
      · obtain ⟨all, m, ht, hrep⟩ := qni (atI f (h - 1)).data v off (off + cnt) o0 (by omega) oc hne (by
          rcases hc0 with h' | h'
          · exact .inl (by omega)
          · exact .inr h') hdl (by omega)
        have hlen : (all.take m).length ≤ 1000000000 := by
          rw [ht]
          simp only [List.length_append, List.length_take, List.length_drop]
          omega
        have := qnb f (daCh h off cnt v) all m hf rfl rfl (by show v.length ≤ _; omega) h1 h2 hd o0 c0' oc hne hlen hrep
        rw [ht, show (daCh h off cnt v).node = h from rfl] at this
        exact this
    · have hc00 : cnt = 0 := by
        have : ¬ 0 < cnt := fun h => hc0 (.inl h)
        omega
      have hv0 : v = [] := Classical.byContradiction fun h => hc0 (.inr h)
      subst hc00 hv0
      have e : repD (atI f (h - 1)).data off 0 [] = (atI f (h - 1)).data := by
        unfold repD
        simp
      rw [e]
      have e2 : doneW f h (atI f (h - 1)).data = (f, 0) := by
        unfold doneW
        rw [qjn hh, if_pos (by rw [qc]; exact hr)]
      rw [e2]
      exact doneSame f (daCh h off 0 []) hf h0 hr rfl rfl h1 h2 hd o0 rfl (by show off ≤ (atI f (h - 1)).data.length; omega) rfl
  | spl a b c =>
    have := qnd f (splitCh a b c) _ hf h0 hr rfl rfl (qn7 f (splitCh a b c) hf.len)
    rw [show doneG f (splitCh a b c) = (if ([a, b].all fun h => inB f h) = true then (f, 0) else ([], 2)) from rfl]
    cases e : [a, b].all fun h => inB f h with
    | true => rw [show ([(splitCh a b c).node, (splitCh a b c).other].all fun h => inB f h) = true from e] at this; exact this
    | false => rw [show ([(splitCh a b c).node, (splitCh a b c).other].all fun h => inB f h) = false from e] at this; exact this
  | tree a b c d =>
    have := qne f (treeCh a b c d) _ hf h0 hr rfl rfl (by simp [treeCh]) (by simp [treeCh, c0]) (qn9 f (treeCh a b c d) hf.len (by simp [treeCh]) (by simp [treeCh, c0]))
    rw [show doneG f (treeCh a b c d) = (if dec (treeP f (treeCh a b c d)) = true then (f, 0) else ([], 2)) from rfl]
    cases e : dec (treeP f (treeCh a b c d)) with
    | true => rw [e] at this; exact this
    | false => rw [e] at this; exact this
noncomputable def doS (p : PS) (c : Change) : PS × Bool :=
  if p.why ≠ 0 then (p, false) else if (doneG p.F c).2 ≠ 0 then (⟨p.F, p.L, (doneG p.F c).2⟩, false) else (⟨(doneG p.F c).1, p.L ++ [c], 0⟩, true)
noncomputable def putS (p : PS) (h off cnt : Int) (v : List Int) : PS :=
  if (replP (nodeAt p.F h).data off cnt v).2 ≠ 0 then refP p (replP (nodeAt p.F h).data off cnt v).2 else (doS p (putC p.F h off cnt v)).1
structure InvP (p : PS) : Prop where
  fit : Fit p.F
  right : rightP p.F
  pos : 0 < p.F.length
  chs : ∀ c ∈ p.L, FitC c
theorem qei (f : List Node) {x p i : Int} (hf : Fit f) (hr : rightP f) (hx : inR f x) (hp : inR f p) (i0 : 0 ≤ i) (i1 : i ≤ (nodeAt f p).kids.length) : Fit (insFM f x p i) := by
  have hfew := qco hr p
  rw [qx hp] at hfew i1
  exact qfp f (inCh x p i) hf hx.1 hx.2 hp.1 hp.2 i0 i1 (by show (atI f (p - 1)).kids.length < _; omega)
theorem qlo {f : List Node} {c : Change} (hf : Fit f) (hr : rightP f) (h0 : 0 < f.length) (hc : CanCh f c) (hw : (doneG f c).2 = 0) : Fit (doneG f c).1 ∧ rightP (doneG f c).1 ∧ f.length ≤ (doneG f c).1.length ∧ FitC c := by
  cases hc with
  | mk n hn h12 =>
    rw [show doneG f (mkCh (f.length + 1) n) = doneM f n from rfl] at hw ⊢
    unfold doneM at hw ⊢
    by_cases h1 : 4096 ≤ f.length
    · rw [if_pos h1] at hw; cases hw
    · rw [if_neg h1] at hw ⊢
      split at hw
      · rename_i h2
        rw [if_pos h2]
        rw [qc] at h2
        exact ⟨hf.snoc (by omega) hn, h2, by simp, ⟨by simp [mkCh, c0], hn, by simp [mkCh, c0], by simp [mkCh, c0]⟩⟩
      · cases hw
  | ins x p i hx hp i0 i1 hp0 =>
    rw [show doneG f (inCh x p i) = doneA f (inCh x p i) from rfl] at hw ⊢
    unfold doneA at hw ⊢
    split at hw
    · rename_i h2
      rw [if_pos h2]
      rw [qc] at h2
      exact ⟨qei f hf hr hx hp i0 i1, h2, by rw [qa7]; exact Nat.le_refl _, ⟨by simp [inCh, c0], fit0, by simp [inCh, c0], by simp [inCh, c0]⟩⟩
    · cases hw
  | dat h off cnt v hh hd o0 c0' oc hv ho =>
    rw [show doneG f (daCh h off cnt v) = doneW f h (repD (atI f (h - 1)).data off cnt v) from rfl] at hw ⊢
    unfold doneW at hw ⊢
    split at hw
    · rename_i h2
      rw [if_pos h2]
      rw [qc] at h2
      have h1 := hh.1
      have h3 := hh.2
      have := hf.atI (h - 1) (by omega) (by omega)
      refine ⟨qby hf ⟨?_, this.attrs, this.kids⟩, h2, by unfold datF; rw [qa4]; exact Nat.le_refl _, ⟨by show v.length ≤ _; omega, fit0, by simp [daCh, c0], by simp [daCh, c0]⟩⟩
      rw [qx hh] at oc ho
      unfold repD
      simp only [List.length_append, List.length_take, List.length_drop]
      omega
    · cases hw
  | spl a b c =>
    rw [show doneG f (splitCh a b c) = (if ([a, b].all fun h => inB f h) = true then (f, 0) else ([], 2)) from rfl] at hw ⊢
    split at hw
    · rename_i h2
      rw [if_pos h2]
      exact ⟨hf, hr, Nat.le_refl _, ⟨by simp [splitCh, c0], fit0, by simp [splitCh, c0], by simp [splitCh, c0]⟩⟩
    · cases hw
  | tree a b c d =>
    rw [show doneG f (treeCh a b c d) = (if dec (treeP f (treeCh a b c d)) = true then (f, 0) else ([], 2)) from rfl] at hw ⊢
    split at hw
    · rename_i h2
      rw [if_pos h2]
      exact ⟨hf, hr, Nat.le_refl _, ⟨by simp [treeCh, c0], fit0, by simp [treeCh], by simp [treeCh, c0]⟩⟩
    · cases hw
theorem qjp {p : PS} {c : Change} (hp : InvP p) (hc : p.why = 0 → CanCh p.F c) : DoR p c (doS p c).1 (doS p c).2 := by
  unfold doS
  by_cases h0 : p.why = 0
  · rw [if_neg (by omega)]
    have hd := qm2 p.F _ c _ hp.fit hp.right (qjo p.F c hp.fit hp.right hp.pos (hc h0))
    by_cases hw : (doneG p.F c).2 = 0
    · rw [if_neg (by omega)]
      rw [hw] at hd
      exact .ok p c _ h0 hd
    · rw [if_pos hw]
      exact .bad p c _ _ h0 hw hd
  · rw [if_pos h0]
    exact .stop p c h0
theorem qdx {p : PS} {c : Change} (hp : InvP p) (hc : p.why = 0 → CanCh p.F c) : InvP (doS p c).1 := by
  unfold doS
  by_cases h0 : p.why = 0
  · rw [if_neg (by omega)]
    by_cases hw : (doneG p.F c).2 = 0
    · rw [if_neg (by omega)]
      obtain ⟨h1, h2, h3, h4⟩ := qlo hp.fit hp.right hp.pos (hc h0) hw
      exact ⟨h1, h2, Nat.lt_of_lt_of_le hp.pos h3, fun d hd => by
        rcases List.mem_append.1 hd with h | h
        · exact hp.chs d h
        · rw [List.mem_singleton] at h; subst h; exact h4⟩
    · rw [if_pos hw]
      exact ⟨hp.fit, hp.right, hp.pos, hp.chs⟩
  · rw [if_pos h0]
    exact hp
theorem qdy (p : PS) (c : Change) : (doS p c).1.L.length ≤ p.L.length + 1 := by
  unfold doS
  split
  · exact Nat.le_succ _
  · split
    · exact Nat.le_succ _
    · simp
theorem qej {p : PS} {c : Change} (h : (doS p c).1.why = 0) : p.why = 0 ∧ (doneG p.F c).2 = 0 ∧ doS p c = (⟨(doneG p.F c).1, p.L ++ [c], 0⟩, true) := by
  unfold doS at h ⊢
  split at h
  · rename_i h1; exact absurd h h1
  · rename_i h1
    split at h
    · rename_i h2; exact absurd h h2
    · rename_i h2
      rw [if_neg h1, if_neg h2]
      exact ⟨by omega, by omega, rfl⟩
theorem qoj {p : PS} {c : Change} (h : (doS p c).1.why ≠ 0) : (doS p c).2 = false := by
  unfold doS at h ⊢
  split at h
  · rename_i h1; rw [if_pos h1]
  · rename_i h1
    rw [if_neg h1]
    split at h
    · rename_i h2; rw [if_pos h2]
    · exact absurd rfl h
theorem qgl (p : PS) (c : Change) : (doS p c).2 = true ↔ (doS p c).1.why = 0 := by
  constructor
  · intro h
    apply Classical.byContradiction
    intro h2
    rw [qoj h2] at h
    cases h
  · intro h
    rw [(qej h).2.2]
theorem qck (f : List Node) (h off cnt : Int) (v : List Int) : putC f h off cnt v = daCh h off (((nodeAt f h).data.length : Int) + v.length - (replP (nodeAt f h).data off cnt v).1.length) v := rfl
theorem qdz {p : PS} {h off cnt : Int} {v : List Int} (hp : InvP p) (hc : p.why = 0 → (replP (nodeAt p.F h).data off cnt v).2 = 0 → CanCh p.F (putC p.F h off cnt v)) : ∃ b, PutR h off cnt v p (putS p h off cnt v) b := by
  unfold putS
  by_cases h1 : (replP (nodeAt p.F h).data off cnt v).2 = 0
  · rw [if_neg (by omega)]
    exact ⟨_, .yes p _ _ h1 (qjp hp fun h0 => hc h0 h1)⟩
  · rw [if_pos h1]
    exact ⟨_, .no p h1⟩
theorem qhg {p : PS} {h off cnt : Int} {v : List Int} (hp : InvP p) (hc : p.why = 0 → (replP (nodeAt p.F h).data off cnt v).2 = 0 → CanCh p.F (putC p.F h off cnt v)) : InvP (putS p h off cnt v) := by
  unfold putS
  by_cases h1 : (replP (nodeAt p.F h).data off cnt v).2 = 0
  · rw [if_neg (by omega)]
    exact qdx hp fun h0 => hc h0 h1
  · rw [if_pos h1]
    exact ⟨hp.fit, hp.right, hp.pos, hp.chs⟩
theorem qlp (p : PS) (h off cnt : Int) (v : List Int) : (putS p h off cnt v).L.length ≤ p.L.length + 1 := by
  unfold putS
  split
  · exact Nat.le_succ _
  · exact qdy _ _
theorem qjq {p : PS} {h off cnt : Int} {v : List Int} (hq : (putS p h off cnt v).why = 0) : p.why = 0 ∧ (replP (nodeAt p.F h).data off cnt v).2 = 0 ∧ (doneG p.F (putC p.F h off cnt v)).2 = 0 ∧ putS p h off cnt v = ⟨(doneG p.F (putC p.F h off cnt v)).1, p.L ++ [putC p.F h off cnt v], 0⟩ := by
  unfold putS at hq ⊢
  split at hq
  · rename_i h1
    unfold refP at hq
    simp only at hq
    split at hq
    · exact absurd hq h1
    · rename_i h2; exact absurd hq h2
  · rename_i h1
    rw [if_neg h1]
    obtain ⟨h2, h3, h4⟩ := qej hq
    exact ⟨h2, by omega, h3, by rw [h4]⟩
noncomputable def spl1 (f : List Node) (h off : Int) : PS × Bool := doS (pen0 f) (mkCh (f.length + 1) (restN f h off))
noncomputable def spl2 (f : List Node) (h off : Int) : PS := (doS (spl1 f h off).1 (inCh (f.length + 1) (nodeAt f h).parent (placeP f h + 1))).1
noncomputable def spl3 (f : List Node) (h off : Int) : PS := (doS (spl2 f h off) (treeCh (nodeAt f h).parent (f.length + 1) h (besideP f h 1))).1
noncomputable def spl4 (f : List Node) (h off : Int) : PS := if (spl1 f h off).2 = true ∧ (nodeAt f h).parent ≠ 0 then (doS (spl3 f h off) (splitCh h (f.length + 1) off)).1 else (spl1 f h off).1
noncomputable def splQ (f : List Node) (h off : Int) : PS := putS (spl4 f h off) h off (restL f h off).length []
theorem qjr {f : List Node} {x p i : Int} (hx : inR f x) (hp : inR f p) (hne : x ≠ p) (k : Int) : nodeAt (insFM f x p i) k = if k = p then { nodeAt f p with kids := insAt (nodeAt f p).kids i x } else if k = x then { nodeAt f x with parent := p } else nodeAt f k := by
  have hx1 := hx.1
  have hx2 := hx.2
  have hp1 := hp.1
  have hp2 := hp.2
  have hat : ∀ j : Int, 0 ≤ j → atI (insFM f x p i) j = if j = p - 1 then { atI f (p - 1) with kids := insAt (atI f (p - 1)).kids i x } else if j = x - 1 then { atI f (x - 1) with parent := p } else atI f j := by
    intro j h0
    unfold insFM
    rw [qbd _ _ _ (by omega) (by rw [qa4]; omega) _ h0]
    by_cases e : j = x - 1
    · rw [if_pos e, if_neg (by omega), if_pos e, qbd _ _ _ (by omega) (by omega) _ (by omega), if_neg (by omega)]
    · rw [if_neg e, qbd _ _ _ (by omega) (by omega) _ h0, if_neg e]
  by_cases h : inR f k
  · have h1 := h.1
    have hg : inR (insFM f x p i) k := ⟨h.1, by rw [qa7]; exact h.2⟩
    rw [qx hg, hat _ (by omega), qx hp, qx hx, qx h]
    by_cases e1 : k = p
    · rw [if_pos (by omega), if_pos e1]
    · rw [if_neg (by omega), if_neg e1]
      by_cases e2 : k = x
      · rw [if_pos (by omega), if_pos e2]
      · rw [if_neg (by omega), if_neg e2]
  · have hg : ¬ inR (insFM f x p i) k := fun h2 => h ⟨h2.1, by have := h2.2; rw [qa7] at this; exact this⟩
    rw [qbs hg, if_neg (fun e : k = p => h (by rw [e]; exact hp)), if_neg (fun e : k = x => h (by rw [e]; exact hx)), qbs h]
theorem qhh {f : List Node} {h : Int} (hh : inR f h) (d : List Int) (k : Int) : nodeAt (datF f h d) k = if k = h then { nodeAt f h with data := d } else nodeAt f k := by
  have h1 := hh.1
  have h2 := hh.2
  have hl : (datF f h d).length = f.length := by unfold datF; rw [qa4]
  by_cases hk : inR f k
  · have hk1 := hk.1
    have hg : inR (datF f h d) k := ⟨hk.1, by rw [hl]; exact hk.2⟩
    rw [qx hg, qx hk, qx hh]
    unfold datF
    rw [qbd _ _ _ (by omega) (by omega) _ (by omega)]
    by_cases e : k = h
    · rw [if_pos (by omega), if_pos e]
    · rw [if_neg (by omega), if_neg e]
  · have hg : ¬ inR (datF f h d) k := fun h2 => hk ⟨h2.1, by have := h2.2; rw [hl] at this; exact this⟩
    rw [qbs hg, if_neg (fun e : k = h => hk (by rw [e]; exact hh)), qbs hk]
open Go.RowKit
theorem qok {k n : Nat} {rs : List (List AV)} {rows : List (List IV)} (h : n = len rs) : frz k (len rs) rows (.os k n) = .imm (.sl rows) := by
  subst h
  show frz0 k (len rs) rows (.os k (len rs)) = _
  unfold frz0
  simp
theorem qlq (l : List Int) (i x : Int) (h0 : 0 ≤ i) (h1 : i ≤ l.length) (hl : l.length ≤ 1000000) : PureC Tryz.prog 189 [.imm (.sl (l.map i64)), iav i, iav x] (.imm (.sl ((insAt l i x).map i64))) := by
  have ht : (l.take i.toNat).length ≤ 1000000 := by simp; omega
  have hd : (l.drop i.toNat).length ≤ 1000000 := by simp; omega
  obtain ⟨a, ha⟩ : ∃ a, a = l.take i.toNat := ⟨_, rfl⟩
  obtain ⟨b, hb⟩ : ∃ b, b = l.drop i.toNat := ⟨_, rfl⟩
  have e : insAt l i x = a ++ x :: b := by rw [ha, hb]; rfl
  rw [← ha] at ht
  rw [← hb] at hd
  rw [e]
  refine yp tabs Tryz.func189 21 [.tmp 6] rfl rfl rfl rfl rfl ?_; intro w0 X
  refine AW.reserve 3 1 rfl ?_
  (repeat' (first | ((with_reducible show AL _ _ _ _ _); first | (refine yf tabs rfl ?_; try dsimp only [len, List.nil_append, List.cons_append]) | refine AL.op rfl (yb0 (i := ti41) (ie := ti3) (e := 3) (f := i64) (xs := l) (ys := a) (h := i) tabs rfl rfl rfl rfl rfl rfl rfl (fun _ => rfl) (by omega) (by omega) ha.symm) ?_ | refine yae rfl (yam (ie := ti3) (b := ⟨3, 1, []⟩) tabs rfl rfl rfl rfl rfl rfl rfl rfl rfl rfl (SrcA.imm (rows := a.map i64) tabs rfl rfl rfl (by simp [i64, ti3])) (by simp [ti3, chunk]; omega) (by simp [chunk]; omega)) rfl ?_ | refine yn ?_) | ((with_reducible show DQ _ _ _ _ _ _); first | refine DQ.stepc (ya9 0 tabs rfl rfl rfl rfl rfl rfl rfl rfl rfl rfl rfl rfl) rfl rfl rfl rfl rfl ?_ | refine DQ.stepc (yb9 (i := ti41) (ie := ti3) (e := 3) (f := i64) (xs := l) (ys := b) (h := i) tabs rfl rfl rfl rfl rfl rfl rfl rfl (fun _ => rfl) (by omega) (by omega) hb.symm) rfl rfl rfl rfl rfl ?_ | refine DQ.stepc (yaw (ie := ti3) (ty := 3) (sz := 1) (rows := (a.map i64).map (·.map .imm)) (rows2 := [cI x]) tabs rfl rfl rfl rfl rfl rfl rfl rfl (by simp) rfl rfl (fun s' hl => hl.srcOwn (by simp [Op.operands, Call.operands]) tabs rfl rfl (b := ⟨3, 1, [cI x]⟩) rfl rfl rfl rfl (by simp [cI, ti3]) (by simp [cI, iav, AV.cell])) (by simp [ti3]; omega) (by simp; omega)) rfl rfl rfl rfl rfl ?_ | refine DQ.stepc (yaw (ie := ti3) (ty := 3) (sz := 1) (rows := (a.map i64).map (·.map .imm) ++ [cI x]) (rows2 := (b.map i64).map (·.map .imm)) tabs rfl rfl rfl rfl rfl rfl rfl rfl (by simp) rfl rfl (fun s' hl => hl.srcImm (by simp [Op.operands, Call.operands]) tabs rfl rfl (rows := b.map i64) rfl (by simp [i64, ti3])) (by simp [ti3]; omega) (by simp; omega)) rfl rfl rfl rfl rfl ?_ | refine DQ.stepc (LS.val tabs rfl rfl rfl) rfl rfl rfl rfl rfl ?_ | refine DQ.stepc (yu rfl rfl) rfl rfl rfl rfl rfl ?_ | refine DQ.nilM (by kernel_rfl) ?_) | refine ym ?_ | refine ya ?_ | refine yb ?_ | refine yg ?_ | refine yo ?_ | refine yc ?_ | refine yr mixed (by kernel_rfl) ?_))
  refine yap rfl (Fz.os (b := ⟨3, 1, (a.map i64).map (·.map .imm) ++ [cI x] ++ (b.map i64).map (·.map .imm)⟩) (rows := (a ++ x :: b).map i64) rfl ?_ (by simp [cI, iav, i64]))
  simp only [List.length_append, List.length_map, List.length_cons, List.length_nil]
  omega
theorem qjs (f : List Node) (c : Change) (hf : Fit f) (hk : c.kind = 2) (h1 : inR f c.node) (h2 : inR f c.parent) (hp0 : (nodeAt f c.node).parent = 0) (hi0 : 0 ≤ c.index) (hidx : c.index ≤ (nodeAt f c.parent).kids.length) (hkl : (nodeAt f c.parent).kids.length ≤ 1000000) : GenC Tryz.prog 169 [⟨44, 16, f.map rowS⟩] [.agg [.os 0 f.length], c.av] (bav true) [⟨44, 16, (insFM f c.node c.parent c.index).map rowS⟩] := by
  have hl := hf.len
  have hR : (f.map rowS).length = f.length := List.length_map _
  have n1 := h1.1
  have n2 := h1.2
  have n3 := h2.1
  have n4 := h2.2
  obtain ⟨K, eK⟩ : ∃ K, K = insAt (nodeAt f c.parent).kids c.index c.node := ⟨_, rfl⟩
  have hcut : PureC Tryz.prog 189 [.imm (.sl ((nodeAt f c.parent).kids.map i64)), iav c.index, iav c.node] (.imm (.sl (K.map i64))) := by
    rw [eK]
    exact qlq _ _ _ hi0 hidx hkl
  have hfin : insFM f c.node c.parent c.index = (f.set (c.parent - 1).toNat { atI f (c.parent - 1) with kids := K }).set (c.node - 1).toNat { atI (f.set (c.parent - 1).toNat { atI f (c.parent - 1) with kids := K }) (c.node - 1) with parent := c.parent } := by
    rw [eK, show (nodeAt f c.parent).kids = (atI f (c.parent - 1)).kids by rw [qx h2]]
    rfl
  have hml : ((nodeAt f c.parent).kids.map i64).length = (nodeAt f c.parent).kids.length := List.length_map _
  clear eK
  refine yah tabs Tryz.func169 112 [.tmp 4] rfl rfl rfl rfl rfl ?_; intro w0 X γ κ
  (repeat' (first | ((with_reducible show AL _ _ _ _ _); first | (refine yf tabs rfl ?_; try dsimp only [len, List.nil_append, List.cons_append]) | refine yz [0] 3 rfl rfl rfl rfl rfl (caps := []) rfl (qgb f c.node hf h1) rfl (by simp only [List.map_cons, List.map_nil, qf (k := 0) (rho0 rfl) (qb f 0)]; rfl) rfl rfl (by simp only [List.all_cons, List.all_nil, Bool.and_true]; exact qb f _) rfl (by simp only [List.all_cons, List.all_nil, Bool.and_true]; exact qb f _) rfl (hpA := [⟨44, 16, f.map rowS⟩]) (by simp only [List.map_cons, List.map_nil, qf (k := 0) (rho0 rfl) (qb f 0)]) (r' := .tup [(nodeAt f c.node).av, bav true]) rfl rfl ?_ | refine yz [0] 4 rfl rfl rfl rfl rfl (caps := []) rfl (qgb f c.parent hf h2) rfl (by simp only [List.map_cons, List.map_nil, qf (k := 0) (rho0 rfl) (qb f 0)]; rfl) rfl rfl (by simp only [List.all_cons, List.all_nil, Bool.and_true]; exact qb f _) rfl (by simp only [List.all_cons, List.all_nil, Bool.and_true]; exact qb f _) rfl (hpA := [⟨44, 16, f.map rowS⟩]) (by simp only [List.map_cons, List.map_nil, qf (k := 0) (rho0 rfl) (qb f 0)]) (r' := .tup [(nodeAt f c.parent).av, bav true]) rfl rfl ?_ | (refine AL.op rfl (yj rfl rfl rfl rfl rfl (by omega) (by omega)) ?_) | refine yae rfl (yan (b := ⟨44, 16, (f.set (c.parent - 1).toNat { atI f (c.parent - 1) with kids := K }).map rowS⟩) tabs rfl rfl rfl rfl rfl rfl rfl rfl (by simp) rfl (by omega) (by omega)) rfl ?_ | refine yae rfl (ya1 (b := ⟨44, 16, (f.set (c.parent - 1).toNat { atI f (c.parent - 1) with kids := K }).map rowS⟩) tabs rfl rfl rfl rfl rfl rfl rfl rfl (by simp)) rfl ?_ | refine yae rfl (ybf (i := ti3) (v := iav c.parent) (ty := 44) (sz := 16) (g := rowS) (xs := (f.set (c.parent - 1).toNat { atI f (c.parent - 1) with kids := K })) (y := { atI (f.set (c.parent - 1).toNat { atI f (c.parent - 1) with kids := K }) (c.node - 1) with parent := c.parent }) (j := c.node - 1) tabs rfl rfl rfl rfl rfl rfl (by simp) (by omega) (by simp; omega) rfl rfl rfl rfl) rfl ?_ | refine yn ?_ | (refine yq rfl rfl rfl (fun hc => ?_) (fun hc => ?_) <;> (fail_if_success (exact absurd hc (by decide))) <;> (try simp only [hsx] at hc) <;> (try first | omega | contradiction | (simp [qa] at hc; done))) | (refine AL.op rfl (yj rfl rfl rfl rfl rfl (by omega) (by omega)) ?_) | (refine AL.op rfl (ye tabs rfl rfl rfl rfl rfl rfl rfl (fun _ => rfl) (by decide) (by omega) (by omega)) ?_)) | ((with_reducible show DQ _ _ _ _ _ _); first | refine DQ.stepc (yai rfl rfl rfl rfl rfl hcut rfl) rfl rfl rfl rfl rfl ?_ | refine DQ.stepc (yar (b := ⟨44, 16, f.map rowS⟩) tabs rfl rfl rfl rfl rfl rfl rfl rfl rfl hR.symm rfl (by omega) (by omega)) rfl rfl rfl rfl rfl ?_ | refine DQ.stepc (yay (b := ⟨44, 16, f.map rowS⟩) tabs rfl rfl rfl rfl rfl rfl rfl rfl rfl hR.symm) rfl rfl rfl rfl rfl ?_ | refine DQ.stepc (LS.store_m (i := ti41) (v := .imm (.sl (K.map i64))) (ty := 44) (sz := 16) (g := rowS) (xs := f) (y := { atI f (c.parent - 1) with kids := K }) (j := c.parent - 1) tabs rfl rfl rfl rfl rfl rfl rfl rfl (by omega) (by omega) rfl rfl (Nat.le_of_ble_eq_true rfl) rfl) rfl rfl rfl rfl rfl ?_ | refine DQ.stepc (LS.val tabs rfl rfl rfl) rfl rfl rfl rfl rfl ?_ | refine DQ.stepc (yu rfl rfl) rfl rfl rfl rfl rfl ?_ | refine DQ.nilM (by kernel_rfl) ?_ | refine DQ.stepc (yad rfl rfl rfl rfl rfl rfl (by omega) (by omega)) rfl rfl rfl rfl rfl ?_ | refine DQ.stepc (yw tabs rfl rfl rfl rfl rfl rfl rfl rfl (fun _ => rfl) (by decide) (by omega) (by omega)) rfl rfl rfl rfl rfl ?_ | (refine DQ.gsplitE rfl rfl rfl (fun hc => ?_) (fun hc => ?_) <;> (fail_if_success (exact absurd hc (by decide))) <;> (try simp only [hsx] at hc) <;> (try first | omega | contradiction | (simp [qa] at hc; done)))) | (exfalso; omega) | refine ym ?_ | refine ya ?_ | refine yb ?_ | refine yg ?_ | refine yi rfl ?_ | refine yh rfl ?_ | (refine yk rfl (fun hc => ?_) (fun hc => ?_) <;> (try simp only [hsx] at hc) <;> (try first | omega | contradiction | (simp [qa] at hc; done))) | refine yo ?_ | refine yc ?_ | refine yr mixed (by kernel_rfl) ?_))
  all_goals first
    | (exfalso; omega)
    | (refine yal 1 rfl rfl (by rw [hfin]; rfl) rfl ?_ (by simp [cxG])
       simp only [qax]
       exact qb _ _)
theorem qnk (f : List Node) (c : Change) (hf : Fit f) (h1 : inR f c.node) (hd : dataB (nodeAt f c.node).kind) (h0 : 0 ≤ c.offset) (hc0 : 0 ≤ c.count) (hoc : c.offset + c.count ≤ (nodeAt f c.node).data.length) (hv : c.data.length ≤ 1000000) : GenC Tryz.prog 171 [⟨44, 16, f.map rowS⟩] [.agg [.os 0 f.length], c.av] (bav true) [⟨44, 16, (datF f c.node (repD (nodeAt f c.node).data c.offset c.count c.data)).map rowS⟩] := by
  have hl := hf.len
  have hR : (f.map rowS).length = f.length := List.length_map _
  have n1 := h1.1
  have n2 := h1.2
  have c3 : PureC Tryz.prog 79 [kav (nodeAt f c.node).kind] (bav true) := by
    have := qb3 (nodeAt f c.node).kind
    rw [show dec (hasD (nodeAt f c.node).kind) = true by rw [qc]; exact (qhe _).2 hd] at this
    exact this
  have hdl := (hf.at c.node).data
  obtain ⟨m, em⟩ : ∃ m, m = nodeAt f c.node := ⟨_, rfl⟩
  have cN := qgb f c.node hf h1
  rw [← em] at cN c3 hoc hdl ⊢
  have hml : (m.data.map u16).length = m.data.length := List.length_map _
  obtain ⟨a, ha⟩ : ∃ a, a = m.data.take c.offset.toNat := ⟨_, rfl⟩
  obtain ⟨b, hb⟩ : ∃ b, b = m.data.drop (c.offset + c.count).toNat := ⟨_, rfl⟩
  have hal : a.length ≤ 1000000000 := by rw [ha]; simp; omega
  have hbl : b.length ≤ 1000000000 := by rw [hb]; simp; omega
  obtain ⟨D, eD⟩ : ∃ D, D = repD m.data c.offset c.count c.data := ⟨_, rfl⟩
  have hD : D = a ++ c.data ++ b := by rw [eD, ha, hb]; rfl
  rw [← eD]
  have hfin : datF f c.node D = f.set (c.node - 1).toNat { atI f (c.node - 1) with data := D } := rfl
  clear eD
  refine yah tabs Tryz.func171 80 [.tmp 4] rfl rfl rfl rfl rfl ?_; intro w0 X γ κ
  (repeat' (first | ((with_reducible show AL _ _ _ _ _); first | refine yb1 4 (h1 := [⟨44, 16, f.map rowS⟩, ⟨24, 1, [[.os 0 f.length]]⟩, ⟨58, 36, [avCells c.av]⟩, ⟨44, 16, [rowS m]⟩]) (env1 := [(2, .ptr 1 1 0 0), (3, .ptr 2 1 0 0), (7, .imm (.sl (D.map u16)))]) (D.map u16) rfl (by rw [hD]; simp only [List.map_append]) ⟨⟨_, rfl, rfl⟩, ⟨_, rfl, rfl⟩, ⟨_, rfl, qok (by simp [qq]; omega)⟩, trivial⟩ rfl rfl (by simp only [qax]; exact ⟨qb _ _, rfl, rfl, qba _ _⟩) (by simp [cxG]) ?_ | (refine yf tabs rfl ?_; try dsimp only [len, List.nil_append, List.cons_append]) | refine yz [0] 3 rfl rfl rfl rfl rfl (caps := []) rfl cN rfl (by simp only [List.map_cons, List.map_nil, qf (k := 0) (rho0 rfl) (qb f 0)]; rfl) rfl rfl (by simp only [List.all_cons, List.all_nil, Bool.and_true]; exact qb f _) rfl (by simp only [List.all_cons, List.all_nil, Bool.and_true]; exact qb f _) rfl (hpA := [⟨44, 16, f.map rowS⟩]) (by simp only [List.map_cons, List.map_nil, qf (k := 0) (rho0 rfl) (qb f 0)]) (r' := .tup [m.av, bav true]) rfl rfl ?_; try dsimp only [setAll, List.drop_succ_cons, List.drop_zero, List.drop_nil, List.set_cons_succ, List.set_cons_zero, List.cons_append, List.nil_append, List.append_nil, len, Nat.reduceAdd] | refine AL.op rfl (yd rfl rfl rfl rfl c3 rfl) ?_ | refine AL.op rfl (yb0 (i := ti36) (ie := ti55) (e := 55) (f := u16) (xs := m.data) (ys := a) (h := c.offset) tabs rfl rfl rfl rfl rfl rfl rfl (fun _ => rfl) (by omega) (by omega) ha.symm) ?_ | refine yae rfl (yam (ie := ti55) (b := ⟨55, 1, []⟩) tabs rfl rfl rfl rfl rfl rfl rfl rfl rfl rfl (SrcA.imm (rows := a.map u16) tabs rfl rfl rfl (by simp [u16, ti55])) (by simp [ti55, chunk]; omega) (by simp [chunk]; omega)) rfl ?_ | (refine AL.op rfl (yj rfl rfl rfl rfl rfl (by omega) (by omega)) ?_) | refine yae rfl (yan (b := ⟨44, 16, f.map rowS⟩) tabs rfl rfl rfl rfl rfl rfl rfl rfl hR.symm rfl (by omega) (by omega)) rfl ?_ | refine yae rfl (ya1 (b := ⟨44, 16, f.map rowS⟩) tabs rfl rfl rfl rfl rfl rfl rfl rfl hR.symm) rfl ?_ | refine yae rfl (ybf (i := ti36) (v := .imm (.sl (D.map u16))) (ty := 44) (sz := 16) (g := rowS) (xs := f) (y := { atI f (c.node - 1) with data := D }) (j := c.node - 1) tabs rfl rfl rfl rfl rfl rfl rfl (by omega) (by omega) rfl rfl rfl rfl) rfl ?_ | refine yn ?_ | (refine yq rfl rfl rfl (fun hc => ?_) (fun hc => ?_) <;> (fail_if_success (exact absurd hc (by decide))) <;> (try simp only [hsx] at hc) <;> (try first | omega | contradiction | (simp [qa] at hc; done))) | (refine AL.op rfl (yj rfl rfl rfl rfl rfl (by omega) (by omega)) ?_) | (refine AL.op rfl (ye tabs rfl rfl rfl rfl rfl rfl rfl (fun _ => rfl) (by decide) (by omega) (by omega)) ?_)) | ((with_reducible show DQ _ _ _ _ _ _); first | refine DQ.stepc (yb9 (i := ti36) (ie := ti55) (e := 55) (f := u16) (xs := m.data) (ys := b) (h := c.offset + c.count) tabs rfl rfl rfl rfl rfl rfl rfl rfl (fun _ => rfl) (by omega) (by omega) hb.symm) rfl rfl rfl rfl rfl ?_ | refine DQ.stepc (yaw (ie := ti55) (ty := 55) (sz := 1) (rows := (a.map u16).map (·.map .imm)) (rows2 := (c.data.map u16).map (·.map .imm)) tabs rfl rfl rfl rfl rfl rfl rfl rfl (by simp) rfl rfl (fun s' hl => hl.srcImm (by simp [Op.operands, Call.operands]) tabs rfl rfl (rows := c.data.map u16) rfl (by simp [u16, ti55])) (by simp [ti55]; omega) (by simp; omega)) rfl rfl rfl rfl rfl ?_ | refine DQ.stepc (yaw (ie := ti55) (ty := 55) (sz := 1) (rows := (a.map u16).map (·.map .imm) ++ (c.data.map u16).map (·.map .imm)) (rows2 := (b.map u16).map (·.map .imm)) tabs rfl rfl rfl rfl rfl rfl rfl rfl (by simp) rfl rfl (fun s' hl => hl.srcImm (by simp [Op.operands, Call.operands]) tabs rfl rfl (rows := b.map u16) rfl (by simp [u16, ti55])) (by simp [ti55]; omega) (by simp; omega)) rfl rfl rfl rfl rfl ?_ | refine DQ.stepc (LS.val tabs rfl rfl rfl) rfl rfl rfl rfl rfl ?_ | refine DQ.stepc (yu rfl rfl) rfl rfl rfl rfl rfl ?_ | refine DQ.nilM (by kernel_rfl) ?_ | refine DQ.stepc (yad rfl rfl rfl rfl rfl rfl (by omega) (by omega)) rfl rfl rfl rfl rfl ?_ | refine DQ.stepc (yw tabs rfl rfl rfl rfl rfl rfl rfl rfl (fun _ => rfl) (by decide) (by omega) (by omega)) rfl rfl rfl rfl rfl ?_ | (refine DQ.gsplitE rfl rfl rfl (fun hc => ?_) (fun hc => ?_) <;> (fail_if_success (exact absurd hc (by decide))) <;> (try simp only [hsx] at hc) <;> (try first | omega | contradiction | (simp [qa] at hc; done)))) | (exfalso; omega) | refine ym ?_ | refine ya ?_ | refine yb ?_ | refine yg ?_ | refine yi rfl ?_ | refine yh rfl ?_ | (refine yk rfl (fun hc => ?_) (fun hc => ?_) <;> (try simp only [hsx] at hc) <;> (try first | omega | contradiction | (simp [qa] at hc; done))) | refine yo ?_ | refine yc ?_ | refine yr mixed (by kernel_rfl) ?_))
  all_goals first
    | (exfalso; omega)
    | (refine yal 1 rfl rfl (by rw [hfin]; rfl) rfl ?_ (by simp [cxG])
       simp only [qax]
       exact qb _ _)
theorem qnl (f : List Node) (c : Change) (hf : Fit f) (hk : c.kind = 1) (hcn : c.node = f.length + 1) (hn : FitN c.made) (h12 : c.made.kind ≠ 12) : GenC Tryz.prog 139 [⟨44, 16, f.map rowS⟩] [.agg [.os 0 f.length], c.av] (.tup [.agg [.os 0 (f.length + 1)], bav true]) [⟨44, 16, (f ++ [c.made]).map rowS⟩] := by
  have hl := hf.len
  have hR : (f.map rowS).length = f.length := List.length_map _
  refine yah tabs Tryz.func139 180 [.cell 4 24, .tmp 5] rfl rfl rfl rfl rfl ?_; intro w0 X γ κ
  refine AW.reserve 44 16 rfl ?_
  (repeat' (first | ((with_reducible show AL _ _ _ _ _); first | (refine yf tabs rfl ?_; try dsimp only [len, List.nil_append, List.cons_append]) | refine yae rfl (yau (b := ⟨44, 16, f.map rowS⟩) tabs rfl rfl rfl rfl rfl rfl hR.symm) rfl ?_ | (refine AL.op rfl (yj rfl rfl rfl rfl rfl (by omega) (by omega)) ?_) | refine yn ?_ | (refine yq rfl rfl rfl (fun hc => ?_) (fun hc => ?_) <;> (fail_if_success (exact absurd hc (by decide))) <;> (try simp only [hsx] at hc) <;> (try first | omega | contradiction | (simp [qa] at hc; done))) | (refine AL.op rfl (yj rfl rfl rfl rfl rfl (by omega) (by omega)) ?_) | (refine AL.op rfl (ye tabs rfl rfl rfl rfl rfl rfl rfl (fun _ => rfl) (by decide) (by omega) (by omega)) ?_)) | ((with_reducible show DQ _ _ _ _ _ _); first | refine DQ.stepc (yai rfl rfl rfl rfl rfl (qa5 c.made hn) rfl) rfl rfl rfl rfl rfl ?_ | refine DQ.stepc (ya9 1 tabs rfl rfl rfl rfl rfl rfl rfl rfl rfl rfl rfl rfl) rfl rfl rfl rfl rfl ?_ | refine DQ.stepc (yaw (ie := ti44) (ty := 44) (sz := 16) (rows := f.map rowS) (rows2 := [rowS c.made]) tabs rfl rfl rfl rfl rfl rfl rfl rfl hR.symm rfl rfl (fun s' hl => hl.srcOwn (by simp [Op.operands, Call.operands]) tabs rfl rfl (b := ⟨44, 16, [rowS c.made]⟩) rfl rfl rfl rfl (by simp [rowS, Node.iv, ti44]) (by simp [rowS, Node.iv, AV.cell])) (by simp [ti44]; omega) (by simp; omega)) rfl rfl rfl rfl rfl ?_ | refine DQ.stepc (LS.store (i := ti22) (v := .os 0 (f.length + 1)) (ty := 24) (sz := 1) (rows := [[.os 0 f.length]]) (r := [.os 0 f.length]) tabs rfl rfl rfl rfl rfl rfl rfl rfl rfl rfl (Nat.le_of_ble_eq_true rfl) rfl) rfl rfl rfl rfl rfl ?_ | refine DQ.stepc (LS.val tabs rfl rfl rfl) rfl rfl rfl rfl rfl ?_ | refine DQ.stepc (yu rfl rfl) rfl rfl rfl rfl rfl ?_ | refine DQ.nilM (by kernel_rfl) ?_ | refine DQ.stepc (yad rfl rfl rfl rfl rfl rfl (by omega) (by omega)) rfl rfl rfl rfl rfl ?_ | refine DQ.stepc (yw tabs rfl rfl rfl rfl rfl rfl rfl rfl (fun _ => rfl) (by decide) (by omega) (by omega)) rfl rfl rfl rfl rfl ?_ | (refine DQ.gsplitE rfl rfl rfl (fun hc => ?_) (fun hc => ?_) <;> (fail_if_success (exact absurd hc (by decide))) <;> (try simp only [hsx] at hc) <;> (try first | omega | contradiction | (simp [qa] at hc; done)))) | (exfalso; omega) | refine ym ?_ | refine ya ?_ | refine yb ?_ | refine yg ?_ | refine AW.block ?_ | refine yy ?_ | refine yi rfl ?_ | refine yh rfl ?_ | (refine yk rfl (fun hc => ?_) (fun hc => ?_) <;> (try simp only [hsx] at hc) <;> (try first | omega | contradiction | (simp [qa] at hc; done))) | refine yo ?_ | refine yaa ?_ | refine yc ?_ | refine yt ?_ | refine yab ?_ | refine yx ?_ | refine InB.off rfl ?_ | refine yr mixed (by kernel_rfl) ?_))
  all_goals first
    | (exfalso; omega)
    | (refine yal 1 rfl (by rw [show bav true = bav (!dec (c.made.kind = 12)) by rw [qu h12]; rfl]; rfl) (by rw [List.map_append]; rfl) rfl ?_ (by simp [cxG])
       simp only [qax]
       exact qb _ _)
end Go.Proofs.YtmhejcnaanocpaaGreat.A
