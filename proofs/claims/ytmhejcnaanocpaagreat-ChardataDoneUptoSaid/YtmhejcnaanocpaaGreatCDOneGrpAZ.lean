/- Contracts: forest.done of a node's data that were none. -/
import Derived.Test.YtmhejcnaanocpaaGreatCDOneGrpAT
import Derived.Test.YtmhejcnaanocpaaGreatCDOneGrpAY
import Derived.Test.YtmhejcnaanocpaaGreatCDOneGrpAX
namespace Go.Proofs.YtmhejcnaanocpaaGreat.A
set_option linter.unusedVariables false
set_option linter.unusedSimpArgs false
set_option maxRecDepth 100000
set_option maxHeartbeats 4000000
theorem copyOfD0_c (f : List Node) (p : Int) (hf : Fit f) (hp : 0 ≤ p) (hp1 : p < f.length) (hk : (atI f p).data = []) : GenC Tryz.prog 70 [⟨44, 16, []⟩] [fav f] (.agg [.os 0 f.length]) [⟨44, 16, rowsD f p .nocap⟩] := by
  refine copyOf_c f (rowsD f p .nocap) hf (by omega) (rowsD_len _ _ _) ?_ ?_ fun i h0 h1 => ?_
  · rw [List.all_eq_true]
    intro r hr
    rcases rowsD_mem hr with rfl | ⟨n, _, rfl⟩ <;> rfl
  · intro r hr
    rcases rowsD_mem hr with rfl | ⟨n, _, rfl⟩ <;> rfl
  · rw [rowsD_at f p _ hp hp1 i h0 h1]
    by_cases e : i = p
    · rw [if_pos e, ← e]
      exact copyNodeD0_c (atI f i) (hf.atI i h0 h1) (by rw [e]; exact hk)
    · rw [if_neg e]
      exact copyNode_c (atI f i) (hf.atI i h0 h1)
theorem insN_c (v : List Int) (hm : v ≠ []) (hv : v.length ≤ 1000000000) : GenC Tryz.prog 180 [⟨55, 1, []⟩] [.nocap, iav 0, .imm (.sl (v.map u16))] (.os 0 v.length) [⟨55, 1, v.map cU⟩] := by
  have hm0 : 0 < v.length := List.length_pos_iff.2 hm
  have hmv : (v.map u16).length = v.length := List.length_map _
  have hmc : (v.map cU).length = v.length := List.length_map _
  refine GenC.mk tabs Tryz.func180 95 [.tmp 6] rfl rfl rfl rfl rfl ?_; intro w0 X γ κ
  (repeat' (first | ((with_reducible show AL _ _ _ _ _); first | refine AL.ope rfl (OpOK.cutEnd (n := 0) tabs rfl rfl rfl rfl rfl (nocap_sl rfl) rfl rfl) rfl ?_ | (refine AL.step tabs rfl ?_; try dsimp only [len, List.nil_append, List.cons_append]) | refine AL.ope rfl (OpOK.len_nocap tabs rfl rfl rfl rfl rfl) rfl ?_ | refine AL.ope rfl (OpOK.append_nocap_at 0 (ie := ti55) tabs rfl rfl rfl rfl rfl (by decide) rfl rfl rfl (rows2 := v.map cU) (by simpa using hm) (srcUb tabs rfl rfl v rfl) (by simp only [ti55]; omega) (by omega)) rfl ?_ | refine AL.nil ?_ | (refine AL.op rfl (OpOK.ari64 rfl rfl rfl rfl rfl (by omega) (by omega)) ?_)) | ((with_reducible show DQ _ _ _ _ _ _); first | refine DQ.stepc (LS.val tabs rfl rfl rfl) rfl rfl rfl rfl rfl ?_ | refine DQ.stepc (LS.skip rfl rfl) rfl rfl rfl rfl rfl ?_ | refine DQ.nilM (by kernel_rfl) ?_ | refine DQ.stepc (LS.ari64 rfl rfl rfl rfl rfl rfl (by omega) (by omega)) rfl rfl rfl rfl rfl ?_) | (exfalso; omega) | refine AW.seq ?_ | refine AW.region ?_ | refine Then.norm ?_ | refine AW.skip ?_ | refine AW.condT rfl ?_ | refine AW.condF rfl ?_ | (refine AW.cond rfl (fun hc => ?_) (fun hc => ?_) <;> (try simp only [hsx] at hc) <;> (try first | (exfalso; omega) | contradiction | (exfalso; simp [dec_eq] at hc; done))) | refine AW.ret ?_ | refine Then.ret ?_ | refine AW.drawW mixed (by kernel_rfl) ?_))
  exact RG.ret 1 rfl (by show AV.os 0 (v.map cU).length = _; rw [hmc]) rfl rfl (by simp only [List.all_cons, List.all_nil, Bool.and_true, List.all_map, Function.comp_def, cU, AV.sc1, AV.sc0, all_tt]) (by simp [cxG])
theorem repN_c (v : List Int) (hm : v ≠ []) (hv : v.length ≤ 1000000000) : GenC Tryz.prog 155 [⟨55, 1, []⟩] [.nocap, iav 0, iav 0, .imm (.sl (v.map u16))] (.os 0 v.length) [⟨55, 1, v.map cU⟩] := by
  have h := insN_c v hm hv
  refine GenC.mk tabs Tryz.func155 224 [.tmp 8] rfl rfl rfl rfl rfl ?_; intro w0 X γ κ
  (repeat' (first | ((with_reducible show AL _ _ _ _ _); first | refine AL.ope rfl (OpOK.cutEnd (n := 0) tabs rfl rfl rfl rfl rfl (nocap_sl rfl) rfl rfl) rfl ?_ | (refine AL.step tabs rfl ?_; try dsimp only [len, List.nil_append, List.cons_append]) | refine AL.callG [0] 1 rfl rfl rfl rfl rfl (caps := []) rfl h rfl rfl rfl rfl rfl rfl (by simp only [List.all_cons, List.all_nil, List.all_map, Function.comp_def, cI, cB, cU, iav, bav, AV.sc1, AV.sc0, Bool.and_true, Bool.and_self, all_tt]; try rfl) rfl (hpA := [⟨55, 1, v.map cU⟩]) (by simp only [List.map_cons, List.map_nil, renB_cU]) (r' := .os 0 v.length) rfl rfl ?_ | refine AL.nil ?_ | (refine AL.op rfl (OpOK.ari64 rfl rfl rfl rfl rfl (by omega) (by omega)) ?_)) | ((with_reducible show DQ _ _ _ _ _ _); first | refine DQ.stepc (LS.val tabs rfl rfl rfl) rfl rfl rfl rfl rfl ?_ | refine DQ.stepc (LS.skip rfl rfl) rfl rfl rfl rfl rfl ?_ | refine DQ.nilM (by kernel_rfl) ?_ | refine DQ.stepc (LS.ari64 rfl rfl rfl rfl rfl rfl (by omega) (by omega)) rfl rfl rfl rfl rfl ?_) | refine AW.seq ?_ | refine AW.region ?_ | refine Then.norm ?_ | refine AW.skip ?_ | refine AW.condT rfl ?_ | refine AW.condF rfl ?_ | (refine AW.cond rfl (fun hc => ?_) (fun hc => ?_) <;> (try simp only [hsx] at hc) <;> (try first | (exfalso; omega) | contradiction | (exfalso; simp [dec_eq] at hc; done))) | refine AW.ret ?_ | refine Then.ret ?_ | refine AW.drawW mixed (by kernel_rfl) ?_))
  exact RG.ret 1 rfl rfl rfl rfl (by simp only [List.all_cons, List.all_nil, List.all_map, Function.comp_def, cI, cB, cU, iav, bav, AV.sc1, AV.sc0, Bool.and_true, Bool.and_self, all_tt]; try rfl) (by simp [cxG])
theorem at_n (f : List Node) (p : Int) (hf : Fit f) (hp : 0 ≤ p) (hp1 : p < f.length) : GenC Tryz.prog 145 [⟨44, 16, rowsD f p .nocap⟩, ⟨55, 1, []⟩] [.agg [.os 0 f.length], iav (p + 1)] (.tup [.agg (nodeRowD (atI f p) .nocap), bav true]) [⟨44, 16, rowsD f p .nocap⟩, ⟨55, 1, []⟩] := by
  have hl := hf.len
  have hR := rowsD_len f p .nocap
  have hsc : (rowsD f p .nocap).all (fun r => r.all (AV.sc1 2)) = true := rowsD_sc f _ _ 2 rfl
  have hat : atI (rowsD f p .nocap) (p + 1 - 1) = nodeRowD (atI f p) .nocap := by
    rw [show p + 1 - 1 = p by omega, rowsD_at f _ _ (by omega) (by omega) _ (by omega) (by omega), if_pos rfl]
  have gat := get_atI (by omega) (by omega) hat
  refine GenC.mk tabs Tryz.func145 22 [.cell 4 44, .tmp 5] rfl rfl rfl rfl rfl ?_; intro w0 X γ κ
  (repeat' (first | ((with_reducible show AL _ _ _ _ _); first | (refine AL.step tabs rfl ?_; try dsimp only [len, List.nil_append, List.cons_append]) | refine AL.ope rfl (OpOK.len_os (b := ⟨44, 16, rowsD f p .nocap⟩) tabs rfl rfl rfl rfl rfl rfl hR.symm) rfl ?_ | (refine AL.op rfl (OpOK.ari64 rfl rfl rfl rfl rfl (by omega) (by omega)) ?_) | refine AL.ope rfl (OpOK.index_own (b := ⟨44, 16, rowsD f p .nocap⟩) tabs rfl rfl rfl rfl rfl rfl rfl rfl hR.symm rfl (by omega) (by omega)) rfl ?_ | refine AL.ope rfl (OpOK.load_own (i := ti44) (r := nodeRowD (atI f p) .nocap) (b := ⟨44, 16, rowsD f p .nocap⟩) (row := (p + 1 - 1).toNat) tabs rfl rfl rfl rfl rfl hR.symm gat rfl) rfl ?_ | refine AL.nil ?_ | (refine AL.gsplitE rfl rfl rfl (fun hc => ?_) (fun hc => ?_) <;> (fail_if_success (exact absurd hc (by decide))) <;> (try simp only [hsx] at hc) <;> (try first | (exfalso; omega) | contradiction | (exfalso; simp [dec_eq] at hc; done))) | (refine AL.op rfl (OpOK.ari64 rfl rfl rfl rfl rfl (by omega) (by omega)) ?_) | (refine AL.op rfl (OpOK.index_map tabs rfl rfl rfl rfl rfl rfl rfl (fun _ => rfl) (by decide) (by omega) (by omega)) ?_)) | refine AW.seq ?_ | refine AW.region ?_ | refine Then.norm ?_ | refine AW.skip ?_ | refine AW.condT rfl ?_ | refine AW.condF rfl ?_ | (refine AW.cond rfl (fun hc => ?_) (fun hc => ?_) <;> (try simp only [hsx] at hc) <;> (try first | (exfalso; omega) | contradiction | (exfalso; simp [dec_eq] at hc; done))) | refine AW.ret ?_ | refine Then.ret ?_))
  all_goals first
    | (exfalso; omega)
    | (refine RG.ret 2 rfl rfl rfl rfl ?_ (by simp [cxG])
       simp only [List.all_cons, List.all_nil, Bool.and_true, Bool.and_eq_true]
       exact hsc)
theorem fdataN_c (f : List Node) (c : Change) (all : List Int) (m : Nat) (hf : Fit f) (h1 : 1 ≤ c.node) (h2 : c.node ≤ f.length) (hd : (traitsOf (atI f (c.node - 1)).kind).data = true)
    (ho0 : 0 ≤ c.offset) (hc0 : 0 ≤ c.count) (hoc : c.offset + c.count ≤ (atI f (c.node - 1)).data.length) (hde : (atI f (c.node - 1)).data = [])
    (hrep : GenC Tryz.prog 155 [⟨55, 1, []⟩] [.nocap, iav c.offset, iav (c.offset + c.count), .imm (.sl (c.data.map u16))] (.sub 0 all.length 0 m) [⟨55, 1, all.map cU⟩]) :
    GenC Tryz.prog 120 [⟨24, 1, [[.os 1 f.length]]⟩, ⟨44, 16, rowsD f (c.node - 1) .nocap⟩, ⟨55, 1, []⟩] [.ptr 0 1 0 0, c.av] (bav true)
      [⟨24, 1, [[.os 1 f.length]]⟩, ⟨44, 16, rowsD f (c.node - 1) (.sub 2 all.length 0 m)⟩, ⟨55, 1, all.map cU⟩] := by
  have hl := hf.len
  obtain ⟨nd, hnd⟩ : ∃ nd, nd = atI f (c.node - 1) := ⟨_, rfl⟩
  have hfn : nd.data.length ≤ 1000000000 := by rw [hnd]; exact (hf.atI (c.node - 1) (by omega) (by omega)).data
  have hR := rowsD_len f (c.node - 1) .nocap
  have hat := at_n f (c.node - 1) hf (by omega) (by omega)
  rw [show c.node - 1 + 1 = c.node by omega, ← hnd] at hat
  have hpar : atI (rowsD f (c.node - 1) .nocap) (c.node - 1) = nodeRowD nd .nocap := by
    rw [rowsD_at f _ _ (by omega) (by omega) _ (by omega) (by omega), if_pos rfl, hnd]
  have gpar := get_atI (by omega) (by omega) hpar
  rw [hde] at hoc
  have hoc0 : c.offset + c.count ≤ 0 := hoc
  have hoff : c.offset = 0 := by omega
  have hcnt : c.count = 0 := by omega
  rw [← hnd] at hd
  have hset : (rowsD f (c.node - 1) .nocap).set (c.node - 1).toNat (nodeRowD nd (.sub 2 all.length 0 m)) = rowsD f (c.node - 1) (.sub 2 all.length 0 m) := by
    unfold rowsD
    rw [List.set_set, hnd]
  have hsc : ∀ k, 3 ≤ k → (rowsD f (c.node - 1) .nocap).all (fun r => r.all (AV.sc1 k)) = true := fun k hk => rowsD_sc f _ _ k rfl
  refine GenC.mk tabs Tryz.func120 75 [.tmp 4] rfl rfl rfl rfl rfl ?_; intro w0 X γ κ
  refine AW.reserve 44 16 rfl ?_
  (repeat' (first | ((with_reducible show AL _ _ _ _ _); first | (refine AL.step tabs rfl ?_; try dsimp only [len, List.nil_append, List.cons_append]) | refine AL.op rfl (OpOK.call rfl rfl rfl rfl (traits_c nd.kind) rfl) ?_ | refine AL.ope rfl (OpOK.len_nocap tabs rfl rfl rfl rfl rfl) rfl ?_ | refine AL.nil ?_ | (refine AL.gsplitE rfl rfl rfl (fun hc => ?_) (fun hc => ?_) <;> (fail_if_success (exact absurd hc (by decide))) <;> (try simp only [hsx] at hc) <;> (try first | (exfalso; omega) | contradiction | (exfalso; simp [dec_eq] at hc; done))) | (refine AL.op rfl (OpOK.ari64 rfl rfl rfl rfl rfl (by omega) (by omega)) ?_) | (refine AL.op rfl (OpOK.index_map tabs rfl rfl rfl rfl rfl rfl rfl (fun _ => rfl) (by decide) (by omega) (by omega)) ?_)) | ((with_reducible show DQ _ _ _ _ _ _); first | refine DQ.stepc (LS.alloc 3 tabs rfl rfl rfl rfl rfl rfl) rfl rfl rfl rfl rfl ?_ | refine DQ.stepc (LS.store (i := ti44) (v := .agg (nodeRowD nd .nocap)) (ty := 44) (sz := 16) (rows := [ti44.zero]) (r := ti44.zero) tabs rfl rfl rfl rfl rfl rfl rfl rfl rfl rfl (Nat.le_of_ble_eq_true rfl) rfl) rfl rfl rfl rfl rfl ?_ | refine DQ.stepc (LS.index_own (b := ⟨44, 16, rowsD f (c.node - 1) .nocap⟩) tabs rfl rfl rfl rfl rfl rfl rfl rfl rfl hR.symm rfl (by omega) (by omega)) rfl rfl rfl rfl rfl ?_ | refine DQ.stepc (LS.fieldAddr (b := ⟨44, 16, rowsD f (c.node - 1) .nocap⟩) tabs rfl rfl rfl rfl rfl rfl rfl rfl rfl hR.symm) rfl rfl rfl rfl rfl ?_ | refine DQ.stepc (LS.store (i := ti36) (v := .sub 2 all.length 0 m) (ty := 44) (sz := 16) (rows := rowsD f (c.node - 1) .nocap) (r := nodeRowD nd .nocap) tabs rfl rfl rfl rfl rfl rfl rfl hR.symm rfl rfl (by decide) gpar) rfl rfl rfl rfl rfl ?_ | refine DQ.stepc (LS.val tabs rfl rfl rfl) rfl rfl rfl rfl rfl ?_ | refine DQ.stepc (LS.skip rfl rfl) rfl rfl rfl rfl rfl ?_ | refine DQ.nilM (by kernel_rfl) ?_ | refine DQ.stepc (LS.ari64 rfl rfl rfl rfl rfl rfl (by omega) (by omega)) rfl rfl rfl rfl rfl ?_ | refine DQ.stepc (LS.index_map tabs rfl rfl rfl rfl rfl rfl rfl rfl (fun _ => rfl) (by decide) (by omega) (by omega)) rfl rfl rfl rfl rfl ?_ | (refine DQ.gsplitE rfl rfl rfl (fun hc => ?_) (fun hc => ?_) <;> (fail_if_success (exact absurd hc (by decide))) <;> (try simp only [hsx] at hc) <;> (try first | (exfalso; omega) | contradiction | (exfalso; simp [dec_eq] at hc; done)))) | ((with_reducible show M2.DQ _ _ _ _ _ _); first | refine M2.DQ.step2 (M2.LS.callG [1, 2] (caps := []) rfl rfl rfl rfl rfl hat (fun _ => rfl) (bs := [⟨44, 16, rowsD f (c.node - 1) .nocap⟩, ⟨55, 1, []⟩]) rfl (fun n => by simp only [List.map_cons, List.map_nil, rowsD_ren]; rfl) rfl rfl (by simp only [List.all_cons, List.all_nil, Bool.and_true, Bool.and_eq_true]; exact rowsD_sc _ _ _ _ rfl) rfl (by simp only [List.all_cons, List.all_nil, Bool.and_true, Bool.and_eq_true]; exact rowsD_sc _ _ _ _ rfl) rfl (hpA := [⟨44, 16, rowsD f (c.node - 1) .nocap⟩, ⟨55, 1, []⟩]) (fun n => by simp only [List.map_cons, List.map_nil, rowsD_ren]; rfl) (r' := .tup [.agg (nodeRowD nd .nocap), bav true]) (fun _ => rfl)) rfl rfl rfl rfl rfl ?_ | refine M2.DQ.step2 (M2.LS.callG [2] (caps := []) rfl rfl rfl rfl rfl hrep (fun _ => rfl) (bs := [⟨55, 1, []⟩]) rfl (fun n => rfl) rfl rfl rfl rfl (by simp only [List.all_cons, List.all_nil, List.all_map, Function.comp_def, cI, cB, cU, iav, bav, AV.sc1, AV.sc0, Bool.and_true, Bool.and_self, all_tt]; try rfl) rfl (hpA := [⟨55, 1, all.map cU⟩]) (fun n => by simp only [List.map_cons, List.map_nil, renB_cU]) (r' := .sub 2 all.length 0 m) (fun _ => rfl)) rfl rfl rfl rfl rfl ?_ | refine M2.DQ.stepc (LS.alloc 3 tabs rfl rfl rfl rfl rfl rfl) rfl rfl rfl rfl rfl ?_ | refine M2.DQ.stepc (LS.store (i := ti44) (v := .agg (nodeRowD nd .nocap)) (ty := 44) (sz := 16) (rows := [ti44.zero]) (r := ti44.zero) tabs rfl rfl rfl rfl rfl rfl rfl rfl rfl rfl (Nat.le_of_ble_eq_true rfl) rfl) rfl rfl rfl rfl rfl ?_ | refine M2.DQ.stepc (LS.index_own (b := ⟨44, 16, rowsD f (c.node - 1) .nocap⟩) tabs rfl rfl rfl rfl rfl rfl rfl rfl rfl hR.symm rfl (by omega) (by omega)) rfl rfl rfl rfl rfl ?_ | refine M2.DQ.stepc (LS.fieldAddr (b := ⟨44, 16, rowsD f (c.node - 1) .nocap⟩) tabs rfl rfl rfl rfl rfl rfl rfl rfl rfl hR.symm) rfl rfl rfl rfl rfl ?_ | refine M2.DQ.stepc (LS.store (i := ti36) (v := .sub 2 all.length 0 m) (ty := 44) (sz := 16) (rows := rowsD f (c.node - 1) .nocap) (r := nodeRowD nd .nocap) tabs rfl rfl rfl rfl rfl rfl rfl hR.symm rfl rfl (by decide) gpar) rfl rfl rfl rfl rfl ?_ | refine M2.DQ.stepc (LS.val tabs rfl rfl rfl) rfl rfl rfl rfl rfl ?_ | refine M2.DQ.stepc (LS.skip rfl rfl) rfl rfl rfl rfl rfl ?_ | refine M2.DQ.nilM (by kernel_rfl) ?_ | refine M2.DQ.stepc (LS.ari64 rfl rfl rfl rfl rfl rfl (by omega) (by omega)) rfl rfl rfl rfl rfl ?_ | refine M2.DQ.stepc (LS.index_map tabs rfl rfl rfl rfl rfl rfl rfl rfl (fun _ => rfl) (by decide) (by omega) (by omega)) rfl rfl rfl rfl rfl ?_ | (refine M2.DQ.gsplitE rfl rfl rfl (fun hc => ?_) (fun hc => ?_) <;> (fail_if_success (exact absurd hc (by decide))) <;> (try simp only [hsx] at hc) <;> (try first | (exfalso; omega) | contradiction | (exfalso; simp [dec_eq] at hc; done)))) | (exfalso; omega) | refine M2.drawW (id := 1) mixed (by kernel_rfl) ?_ | refine M2.drawW (id := 4) mixed (by kernel_rfl) ?_ | refine AW.seq ?_ | refine AW.region ?_ | refine Then.norm ?_ | refine AW.skip ?_ | refine AW.condT rfl ?_ | refine AW.condF rfl ?_ | (refine AW.cond rfl (fun hc => ?_) (fun hc => ?_) <;> (try simp only [hsx] at hc) <;> (try first | (exfalso; omega) | contradiction | (exfalso; simp [dec_eq] at hc; done))) | refine AW.ret ?_ | refine Then.ret ?_ | refine AW.drawW mixed (by kernel_rfl) ?_))
  all_goals first
    | (exfalso; omega)
    | (refine RG.ret 3 rfl rfl (by rw [← hset]; rfl) rfl ?_ (by simp [cxG])
       simp only [List.all_cons, List.all_nil, Bool.and_true, Bool.and_eq_true]
       exact ⟨rfl, rowsD_sc _ _ _ _ rfl, (by simp only [List.all_cons, List.all_nil, List.all_map, Function.comp_def, cI, cB, cU, iav, bav, AV.sc1, AV.sc0, Bool.and_true, Bool.and_self, all_tt]; try rfl)⟩)
    | (exfalso; rw [hd] at hc; cases hc)
theorem doneN_c (f : List Node) (c : Change) (all : List Int) (m : Nat) (hf : Fit f) (hck : c.kind = 5) (hcp : plainDa c = c) (hdl : c.data.length ≤ 1000000000) (h1 : 1 ≤ c.node) (h2 : c.node ≤ f.length) (hd : (traitsOf (atI f (c.node - 1)).kind).data = true)
    (ho0 : 0 ≤ c.offset) (hc0 : 0 ≤ c.count) (hoc : c.offset + c.count ≤ (atI f (c.node - 1)).data.length) (hne : (atI f (c.node - 1)).data = []) (hnl : (all.take m).length ≤ 1000000000)
    (hrep : GenC Tryz.prog 155 [⟨55, 1, []⟩] [.nocap, iav c.offset, iav (c.offset + c.count), .imm (.sl (c.data.map u16))] (.sub 0 all.length 0 m) [⟨55, 1, all.map cU⟩]) :
    PureC Tryz.prog 71 [fav f, c.av] (.tup [fav (doneW f c.node (all.take m)).1, iav (doneW f c.node (all.take m)).2]) := by
  have hsame : PureC Tryz.prog 96 [c.av, (plainDa c).av] (bav true) := by
    rw [hcp]
    exact sameSelf_c c hdl (by rw [← hcp]; exact fit0) (by rw [← hcp]; simp [plainDa, c0]) (by rw [← hcp]; simp [plainDa, c0]) (by omega) (by omega)
  have hins := fdataN_c f c all m hf h1 h2 hd ho0 hc0 hoc hne hrep
  have hfst : ∀ j : Nat, j < 4 → stepKeys[j]? ≠ some c.kind := by
    intro j hj
    rw [hck]
    match j, hj with
    | 0, _ => decide
    | 1, _ => decide
    | 2, _ => decide
    | 3, _ => decide
  have hfi : Fit (datF f c.node (all.take m)) := by
    have := hf.atI (c.node - 1) (by omega) (by omega)
    exact upd_fit hf ⟨hnl, this.attrs, this.kids⟩
  have fzW : ∀ {C : Cx} {s : St}, nth s.hp 0 = some ⟨44, 16, rowsD f (c.node - 1) (.sub 1 all.length 0 m)⟩ → nth s.hp 1 = some ⟨55, 1, all.map cU⟩ → Fz C s (.agg [.os 0 f.length]) (fav (datF f c.node (all.take m))) := by
    intro C s g1 g2
    exact fzD (by omega) (by omega) g1 g2
  refine PureC.mk tabs Tryz.func71 51 [.cell 4 24, .tmp 5] rfl rfl rfl rfl rfl ?_; intro w0 X
  refine AW.reserve 44 16 rfl ?_
  refine AW.reserve 55 1 rfl ?_
  refine AW.reserve 126 4 rfl ?_
  (repeat' (first | ((with_reducible show AL _ _ _ _ _); first | (refine AL.step tabs rfl ?_; try dsimp only [len, List.nil_append, List.cons_append]) | refine AL.callG [0] 6 rfl rfl rfl rfl rfl (caps := []) rfl (copyOfD0_c f (c.node - 1) hf (by omega) (by omega) hne) rfl rfl rfl rfl rfl rfl (by simp only [List.all_cons, List.all_nil, Bool.and_true]; exact rowsD_sc _ _ _ _ rfl) rfl (hpA := [⟨44, 16, rowsD f (c.node - 1) .nocap⟩]) (by simp only [List.map_cons, List.map_nil, rowsD_ren]; rfl) (r' := .agg [.os 0 f.length]) rfl rfl ?_ | refine AL.callG [6, 0, 1] 7 rfl rfl rfl rfl rfl (caps := []) rfl hins rfl (by simp only [List.map_cons, List.map_nil, rowsD_ren]; rfl) rfl rfl (by simp only [List.all_cons, List.all_nil, Bool.and_true, Bool.and_eq_true]; exact ⟨rfl, rowsD_sc _ _ _ _ rfl⟩) rfl (by simp only [List.all_cons, List.all_nil, Bool.and_true, Bool.and_eq_true]; exact ⟨rfl, rowsD_sc _ _ _ _ rfl, (by simp only [List.all_cons, List.all_nil, List.all_map, Function.comp_def, cI, cB, cU, iav, bav, AV.sc1, AV.sc0, Bool.and_true, Bool.and_self, all_tt]; try rfl)⟩) rfl (hpA := [⟨24, 1, [[.os 0 f.length]]⟩, ⟨44, 16, rowsD f (c.node - 1) (.sub 1 all.length 0 m)⟩, ⟨55, 1, all.map cU⟩]) (by simp only [List.map_cons, List.map_nil, rowsD_ren, renB_cU]; rfl) (r' := bav true) rfl rfl ?_ | refine AL.op rfl (OpOK.callsc rfl rfl rfl rfl (.cons (fzW rfl rfl) .nil) (right_c (datF f c.node (all.take m)) hfi) rfl) ?_ | refine AL.nil ?_ | (refine AL.gsplitE rfl rfl rfl (fun hc => ?_) (fun hc => ?_) <;> (fail_if_success (exact absurd hc (by decide))) <;> (try simp only [hsx] at hc) <;> (try first | (exfalso; omega) | contradiction | (exfalso; simp [dec_eq] at hc; done)))) | ((with_reducible show DQ _ _ _ _ _ _); first | refine DQ.stepc (LS.call rfl rfl rfl rfl rfl steps_c rfl) rfl rfl rfl rfl rfl ?_ | refine DQ.stepc (LS.lookOk (kf := k8) (q := c.kind) (xs := stepKeys) (i := 4) (v := [.fn 119, .fn 120, .bool false, .fn 121]) key56 Tryz.underlying128 zero126 rfl rfl rfl rfl rfl rfl (by rw [hck]; rfl) hfst rfl) rfl rfl rfl rfl rfl ?_ | refine DQ.stepc (LS.alloc 2 tabs rfl rfl rfl rfl rfl rfl) rfl rfl rfl rfl rfl ?_ | refine DQ.stepc (LS.store (i := ti126) (v := .agg [.imm (.fn 119), .imm (.fn 120), .imm (.bool false), .imm (.fn 121)]) (ty := 126) (sz := 4) (rows := [ti126.zero]) (r := ti126.zero) tabs rfl rfl rfl rfl rfl rfl rfl rfl rfl rfl (Nat.le_of_ble_eq_true rfl) rfl) rfl rfl rfl rfl rfl ?_ | refine DQ.stepc (LS.call rfl rfl rfl rfl rfl (plainData_c c) rfl) rfl rfl rfl rfl rfl ?_ | refine DQ.stepc (LS.call rfl rfl rfl rfl rfl hsame rfl) rfl rfl rfl rfl rfl ?_ | refine DQ.stepc (LS.val tabs rfl rfl rfl) rfl rfl rfl rfl rfl ?_ | refine DQ.stepc (LS.skip rfl rfl) rfl rfl rfl rfl rfl ?_ | refine DQ.nilM (by kernel_rfl) ?_ | (refine DQ.gsplitE rfl rfl rfl (fun hc => ?_) (fun hc => ?_) <;> (fail_if_success (exact absurd hc (by decide))) <;> (try simp only [hsx] at hc) <;> (try first | (exfalso; omega) | contradiction | (exfalso; simp [dec_eq] at hc; done)))) | refine AW.seq ?_ | refine AW.region ?_ | refine Then.norm ?_ | refine AW.skip ?_ | refine AW.condT rfl ?_ | refine AW.condF rfl ?_ | (refine AW.cond rfl (fun hc => ?_) (fun hc => ?_) <;> (try simp only [hsx] at hc) <;> (try first | (exfalso; omega) | contradiction | (exfalso; simp [dec_eq] at hc; done))) | refine AW.ret ?_ | refine Then.ret ?_ | refine AW.drawW mixed (by kernel_rfl) ?_))
  all_goals first
    | (rw [show doneW f c.node (all.take m) = ([], 2) by unfold doneW; rw [if_neg (by rw [dec_true]; exact hc)]]; exact RQ.fin rfl rfl rfl)
    | (rw [show doneW f c.node (all.take m) = (datF f c.node (all.take m), 0) by unfold doneW; rw [if_pos (by rw [dec_true]; exact hc)]]; exact RQ.ret rfl (Fz.tup (.cons (fzW rfl rfl) (.cons (Fz.im rfl) .nil))))
end Go.Proofs.YtmhejcnaanocpaaGreat.A
namespace Go.Proofs.YtmhejcnaanocpaaGreat.A
set_option linter.unusedVariables false
set_option linter.unusedSimpArgs false
set_option maxRecDepth 100000
set_option maxHeartbeats 4000000
def repD (l : List Int) (off cnt : Int) (v : List Int) : List Int := l.take off.toNat ++ v ++ l.drop (off + cnt).toNat
noncomputable def doneG (f : List Node) (c : Change) : List Node × Int :=
  if c.kind = 1 then doneM f c.made
  else if c.kind = 2 then doneA f c
  else if c.kind = 5 then doneW f c.node (repD (atI f (c.node - 1)).data c.offset c.count c.data)
  else if c.kind = 8 then (if ([c.node, c.other].all fun h => inB f h) = true then (f, 0) else ([], 2))
  else (if dec (treeP f c) = true then (f, 0) else ([], 2))
def daCh (node off cnt : Int) (v : List Int) : Change := { c0 with kind := 5, node := node, offset := off, count := cnt, data := v }
/-- the changes that are spoken of here. -/
inductive CanCh (f : List Node) : Change → Prop
  | mk (n : Node) (hn : FitN n) (h12 : n.kind ≠ 12) : CanCh f (mkCh (f.length + 1) n)
  | ins (x p i : Int) (hx : inR f x) (hp : inR f p) (h0 : 0 ≤ i) (h1 : i ≤ (nodeAt f p).kids.length) (hp0 : (nodeAt f x).parent = 0) : CanCh f (inCh x p i)
  | dat (h off cnt : Int) (v : List Int) (hh : inR f h) (hd : (traitsOf (nodeAt f h).kind).data = true) (h0 : 0 ≤ off) (h1 : 0 ≤ cnt) (h2 : off + cnt ≤ (nodeAt f h).data.length) (hv : v.length ≤ 1000000) (ho : ((nodeAt f h).data.length : Int) - cnt + v.length ≤ 1000000) : CanCh f (daCh h off cnt v)
  | spl (a b c : Int) : CanCh f (splitCh a b c)
  | tree (a b c d : Int) : CanCh f (treeCh a b c d)
theorem repD_end (l : List Int) (off cnt : Int) (v : List Int) (h0 : 0 ≤ off) (h2 : off + cnt = l.length) (h1 : 0 ≤ cnt) : repD l off cnt v = l.take off.toNat ++ v := by
  unfold repD
  rw [List.drop_eq_nil_of_le (by omega), List.append_nil]
theorem repL_take (l v : List Int) (i : Nat) (h : i ≤ l.length) : (repL l v i).take (i + v.length) = l.take i ++ v := by
  unfold repL
  rw [List.take_append_of_le_length (by simp; omega), List.take_of_length_le (by simp; omega)]
theorem node_same {f : List Node} {h : Int} (hh : inR f h) : datF f h (atI f (h - 1)).data = f := by
  unfold datF updAt
  have h1 := hh.1
  have h2 := hh.2
  have := set_same f (h - 1) (by omega) (by omega)
  exact this
theorem doneG_c (f : List Node) (c : Change) (hf : Fit f) (hr : rightP f) (h0 : 0 < f.length) (hc : CanCh f c) : PureC Tryz.prog 71 [fav f, c.av] (.tup [fav (doneG f c).1, iav (doneG f c).2]) := by
  cases hc with
  | mk n hn h12 =>
    rw [show doneG f (mkCh (f.length + 1) n) = doneM f n from rfl]
    exact doneM_c f n hf hn h0 h12
  | ins x p i hx hp i0 i1 hp0 =>
    rw [show doneG f (inCh x p i) = doneA f (inCh x p i) from rfl]
    have h1 := hx.1
    have h2 := hx.2
    have h3 := hp.1
    have h4 := hp.2
    rw [node_in hp] at i1
    rw [node_in hx] at hp0
    have hkl := (hf.atI (p - 1) (by omega) (by omega)).kids
    have hfew := right_few hr p
    rw [node_in hp] at hfew
    by_cases hi : i < (atI f (p - 1)).kids.length
    · exact doneIM_c f (inCh x p i) hf h0 rfl rfl (by show (atI f (p - 1)).kids.length < _; omega) h1 h2 h3 h4 i0 hi hp0
    · have hi' : i = (atI f (p - 1)).kids.length := by omega
      have e : doneA f (inCh x p i) = doneI f (inCh x p i) := by
        unfold doneA doneI
        rw [show insFM f (inCh x p i).node (inCh x p i).parent (inCh x p i).index = insF f (inCh x p i).node (inCh x p i).parent by rw [show (inCh x p i).index = (atI f ((inCh x p i).parent - 1)).kids.length from hi']; exact insFM_end _ _ _]
      rw [e]
      by_cases hk : (atI f (p - 1)).kids = []
      · exact doneI0_c f (inCh x p i) hf h0 rfl rfl (by show (atI f (p - 1)).kids.length < _; omega) h1 h2 h3 h4 hi' hk hp0
      · exact doneIK_c f (inCh x p i) hf h0 rfl rfl (by show (atI f (p - 1)).kids.length < _; omega) h1 h2 h3 h4 hi' hk hp0
  | dat h off cnt v hh hd o0 c0' oc hv ho =>
    rw [show doneG f (daCh h off cnt v) = doneW f h (repD (atI f (h - 1)).data off cnt v) from rfl]
    rw [node_in hh] at hd oc ho
    have h1 := hh.1
    have h2 := hh.2
    have hdl := (hf.atI (h - 1) (by omega) (by omega)).data
    by_cases hc0 : 0 < cnt ∨ v ≠ []
    · by_cases hne : (atI f (h - 1)).data = []
      · rw [hne] at oc ho
        have hoff : off = 0 := by simp at oc; omega
        have hcnt : cnt = 0 := by simp at oc; omega
        subst hoff hcnt
        have hv0 : v ≠ [] := by
          rcases hc0 with h' | h'
          · omega
          · exact h'
        have hvp : 0 < v.length := List.length_pos_iff.2 hv0
        have hrep := (repN_c v hv0 (by omega)).sub (by simp) hvp
        have := doneN_c f (daCh h 0 0 v) v v.length hf rfl rfl (by show v.length ≤ _; omega) h1 h2 hd o0 c0' (by show (0 : Int) + 0 ≤ _; omega) hne (by rw [List.take_of_length_le (Nat.le_refl _)]; omega) hrep
        rw [List.take_of_length_le (Nat.le_refl _), show (daCh h 0 0 v).node = h from rfl] at this
        rw [hne, show repD [] 0 0 v = v by simp [repD]]
        exact this
      · obtain ⟨all, m, ht, hrep⟩ := rep_all (atI f (h - 1)).data v off (off + cnt) o0 (by omega) oc hne (by
          rcases hc0 with h' | h'
          · exact .inl (by omega)
          · exact .inr h') hdl (by omega)
        have hlen : (all.take m).length ≤ 1000000000 := by
          rw [ht]
          simp only [List.length_append, List.length_take, List.length_drop]
          omega
        have := doneD_c f (daCh h off cnt v) all m hf rfl rfl (by show v.length ≤ _; omega) h1 h2 hd o0 c0' oc hne hlen hrep
        rw [ht, show (daCh h off cnt v).node = h from rfl] at this
        exact this
    · have hc00 : cnt = 0 := by
        have : ¬ 0 < cnt := fun h => hc0 (.inl h)
        omega
      have hv0 : v = [] := Classical.byContradiction fun h => hc0 (.inr h)
      subst hc00 hv0
      have e : repD (atI f (h - 1)).data off 0 [] = (atI f (h - 1)).data := by
        unfold repD
        simp
      rw [e]
      have e2 : doneW f h (atI f (h - 1)).data = (f, 0) := by
        unfold doneW
        rw [node_same hh, if_pos (by rw [dec_true]; exact hr)]
      rw [e2]
      exact doneSame f (daCh h off 0 []) hf h0 hr rfl rfl h1 h2 hd o0 rfl (by show off ≤ (atI f (h - 1)).data.length; omega) rfl
  | spl a b c =>
    have := doneP_c f (splitCh a b c) _ hf h0 hr rfl rfl (pair_c f (splitCh a b c) hf.len)
    rw [show doneG f (splitCh a b c) = (if ([a, b].all fun h => inB f h) = true then (f, 0) else ([], 2)) from rfl]
    cases e : [a, b].all fun h => inB f h with
    | true => rw [show ([(splitCh a b c).node, (splitCh a b c).other].all fun h => inB f h) = true from e] at this; exact this
    | false => rw [show ([(splitCh a b c).node, (splitCh a b c).other].all fun h => inB f h) = false from e] at this; exact this
  | tree a b c d =>
    have := doneT_c f (treeCh a b c d) _ hf h0 hr rfl rfl (by simp [treeCh]) (by simp [treeCh, c0]) (tree_c f (treeCh a b c d) hf.len (by simp [treeCh]) (by simp [treeCh, c0]))
    rw [show doneG f (treeCh a b c d) = (if dec (treeP f (treeCh a b c d)) = true then (f, 0) else ([], 2)) from rfl]
    cases e : dec (treeP f (treeCh a b c d)) with
    | true => rw [e] at this; exact this
    | false => rw [e] at this; exact this
end Go.Proofs.YtmhejcnaanocpaaGreat.A
namespace Go.Proofs.YtmhejcnaanocpaaGreat.A
set_option linter.unusedVariables false
set_option linter.unusedSimpArgs false
set_option maxRecDepth 100000
set_option maxHeartbeats 4000000
noncomputable def doS (p : PS) (c : Change) : PS × Bool :=
  if p.why ≠ 0 then (p, false) else if (doneG p.F c).2 ≠ 0 then (⟨p.F, p.L, (doneG p.F c).2⟩, false) else (⟨(doneG p.F c).1, p.L ++ [c], 0⟩, true)
noncomputable def putS (p : PS) (h off cnt : Int) (v : List Int) : PS :=
  if (replP (nodeAt p.F h).data off cnt v).2 ≠ 0 then refP p (replP (nodeAt p.F h).data off cnt v).2 else (doS p (putC p.F h off cnt v)).1
structure InvP (p : PS) : Prop where
  fit : Fit p.F
  right : rightP p.F
  pos : 0 < p.F.length
  chs : ∀ c ∈ p.L, FitC c
theorem insFM_fit' (f : List Node) {x p i : Int} (hf : Fit f) (hr : rightP f) (hx : inR f x) (hp : inR f p) (i0 : 0 ≤ i) (i1 : i ≤ (nodeAt f p).kids.length) : Fit (insFM f x p i) := by
  have hfew := right_few hr p
  rw [node_in hp] at hfew i1
  exact insFM_fit f (inCh x p i) hf hx.1 hx.2 hp.1 hp.2 i0 i1 (by show (atI f (p - 1)).kids.length < _; omega)
theorem doneG_ok {f : List Node} {c : Change} (hf : Fit f) (hr : rightP f) (h0 : 0 < f.length) (hc : CanCh f c) (hw : (doneG f c).2 = 0) : Fit (doneG f c).1 ∧ rightP (doneG f c).1 ∧ f.length ≤ (doneG f c).1.length ∧ FitC c := by
  cases hc with
  | mk n hn h12 =>
    rw [show doneG f (mkCh (f.length + 1) n) = doneM f n from rfl] at hw ⊢
    unfold doneM at hw ⊢
    by_cases h1 : 4096 ≤ f.length
    · rw [if_pos h1] at hw; cases hw
    · rw [if_neg h1] at hw ⊢
      split at hw
      · rename_i h2
        rw [if_pos h2]
        rw [dec_true] at h2
        exact ⟨hf.snoc (by omega) hn, h2, by simp, ⟨by simp [mkCh, c0], hn, by simp [mkCh, c0], by simp [mkCh, c0]⟩⟩
      · cases hw
  | ins x p i hx hp i0 i1 hp0 =>
    rw [show doneG f (inCh x p i) = doneA f (inCh x p i) from rfl] at hw ⊢
    unfold doneA at hw ⊢
    split at hw
    · rename_i h2
      rw [if_pos h2]
      rw [dec_true] at h2
      exact ⟨insFM_fit' f hf hr hx hp i0 i1, h2, by rw [insFM_len]; exact Nat.le_refl _, ⟨by simp [inCh, c0], fit0, by simp [inCh, c0], by simp [inCh, c0]⟩⟩
    · cases hw
  | dat h off cnt v hh hd o0 c0' oc hv ho =>
    rw [show doneG f (daCh h off cnt v) = doneW f h (repD (atI f (h - 1)).data off cnt v) from rfl] at hw ⊢
    unfold doneW at hw ⊢
    split at hw
    · rename_i h2
      rw [if_pos h2]
      rw [dec_true] at h2
      have h1 := hh.1
      have h3 := hh.2
      have := hf.atI (h - 1) (by omega) (by omega)
      refine ⟨upd_fit hf ⟨?_, this.attrs, this.kids⟩, h2, by unfold datF; rw [upd_len]; exact Nat.le_refl _, ⟨by show v.length ≤ _; omega, fit0, by simp [daCh, c0], by simp [daCh, c0]⟩⟩
      rw [node_in hh] at oc ho
      unfold repD
      simp only [List.length_append, List.length_take, List.length_drop]
      omega
    · cases hw
  | spl a b c =>
    rw [show doneG f (splitCh a b c) = (if ([a, b].all fun h => inB f h) = true then (f, 0) else ([], 2)) from rfl] at hw ⊢
    split at hw
    · rename_i h2
      rw [if_pos h2]
      exact ⟨hf, hr, Nat.le_refl _, ⟨by simp [splitCh, c0], fit0, by simp [splitCh, c0], by simp [splitCh, c0]⟩⟩
    · cases hw
  | tree a b c d =>
    rw [show doneG f (treeCh a b c d) = (if dec (treeP f (treeCh a b c d)) = true then (f, 0) else ([], 2)) from rfl] at hw ⊢
    split at hw
    · rename_i h2
      rw [if_pos h2]
      exact ⟨hf, hr, Nat.le_refl _, ⟨by simp [treeCh, c0], fit0, by simp [treeCh], by simp [treeCh, c0]⟩⟩
    · cases hw
theorem doS_R {p : PS} {c : Change} (hp : InvP p) (hc : p.why = 0 → CanCh p.F c) : DoR p c (doS p c).1 (doS p c).2 := by
  unfold doS
  by_cases h0 : p.why = 0
  · rw [if_neg (by omega)]
    have hd := apply_c p.F _ c _ hp.fit hp.right (doneG_c p.F c hp.fit hp.right hp.pos (hc h0))
    by_cases hw : (doneG p.F c).2 = 0
    · rw [if_neg (by omega)]
      rw [hw] at hd
      exact .ok p c _ h0 hd
    · rw [if_pos hw]
      exact .bad p c _ _ h0 hw hd
  · rw [if_pos h0]
    exact .stop p c h0
theorem doS_inv {p : PS} {c : Change} (hp : InvP p) (hc : p.why = 0 → CanCh p.F c) : InvP (doS p c).1 := by
  unfold doS
  by_cases h0 : p.why = 0
  · rw [if_neg (by omega)]
    by_cases hw : (doneG p.F c).2 = 0
    · rw [if_neg (by omega)]
      obtain ⟨h1, h2, h3, h4⟩ := doneG_ok hp.fit hp.right hp.pos (hc h0) hw
      exact ⟨h1, h2, Nat.lt_of_lt_of_le hp.pos h3, fun d hd => by
        rcases List.mem_append.1 hd with h | h
        · exact hp.chs d h
        · rw [List.mem_singleton] at h; subst h; exact h4⟩
    · rw [if_pos hw]
      exact ⟨hp.fit, hp.right, hp.pos, hp.chs⟩
  · rw [if_pos h0]
    exact hp
theorem doS_len (p : PS) (c : Change) : (doS p c).1.L.length ≤ p.L.length + 1 := by
  unfold doS
  split
  · exact Nat.le_succ _
  · split
    · exact Nat.le_succ _
    · simp
theorem doS_ok {p : PS} {c : Change} (h : (doS p c).1.why = 0) : p.why = 0 ∧ (doneG p.F c).2 = 0 ∧ doS p c = (⟨(doneG p.F c).1, p.L ++ [c], 0⟩, true) := by
  unfold doS at h ⊢
  split at h
  · rename_i h1; exact absurd h h1
  · rename_i h1
    split at h
    · rename_i h2; exact absurd h h2
    · rename_i h2
      rw [if_neg h1, if_neg h2]
      exact ⟨by omega, by omega, rfl⟩
theorem doS_no {p : PS} {c : Change} (h : (doS p c).1.why ≠ 0) : (doS p c).2 = false := by
  unfold doS at h ⊢
  split at h
  · rename_i h1; rw [if_pos h1]
  · rename_i h1
    rw [if_neg h1]
    split at h
    · rename_i h2; rw [if_pos h2]
    · exact absurd rfl h
theorem doS_iff (p : PS) (c : Change) : (doS p c).2 = true ↔ (doS p c).1.why = 0 := by
  constructor
  · intro h
    apply Classical.byContradiction
    intro h2
    rw [doS_no h2] at h
    cases h
  · intro h
    rw [(doS_ok h).2.2]
/-- a text's change by putC is the data's. -/
theorem putC_da (f : List Node) (h off cnt : Int) (v : List Int) : putC f h off cnt v = daCh h off (((nodeAt f h).data.length : Int) + v.length - (replP (nodeAt f h).data off cnt v).1.length) v := rfl
theorem putS_R {p : PS} {h off cnt : Int} {v : List Int} (hp : InvP p) (hc : p.why = 0 → (replP (nodeAt p.F h).data off cnt v).2 = 0 → CanCh p.F (putC p.F h off cnt v)) : ∃ b, PutR h off cnt v p (putS p h off cnt v) b := by
  unfold putS
  by_cases h1 : (replP (nodeAt p.F h).data off cnt v).2 = 0
  · rw [if_neg (by omega)]
    exact ⟨_, .yes p _ _ h1 (doS_R hp fun h0 => hc h0 h1)⟩
  · rw [if_pos h1]
    exact ⟨_, .no p h1⟩
theorem putS_inv {p : PS} {h off cnt : Int} {v : List Int} (hp : InvP p) (hc : p.why = 0 → (replP (nodeAt p.F h).data off cnt v).2 = 0 → CanCh p.F (putC p.F h off cnt v)) : InvP (putS p h off cnt v) := by
  unfold putS
  by_cases h1 : (replP (nodeAt p.F h).data off cnt v).2 = 0
  · rw [if_neg (by omega)]
    exact doS_inv hp fun h0 => hc h0 h1
  · rw [if_pos h1]
    exact ⟨hp.fit, hp.right, hp.pos, hp.chs⟩
theorem putS_len (p : PS) (h off cnt : Int) (v : List Int) : (putS p h off cnt v).L.length ≤ p.L.length + 1 := by
  unfold putS
  split
  · exact Nat.le_succ _
  · exact doS_len _ _
theorem putS_ok {p : PS} {h off cnt : Int} {v : List Int} (hq : (putS p h off cnt v).why = 0) : p.why = 0 ∧ (replP (nodeAt p.F h).data off cnt v).2 = 0 ∧ (doneG p.F (putC p.F h off cnt v)).2 = 0 ∧ putS p h off cnt v = ⟨(doneG p.F (putC p.F h off cnt v)).1, p.L ++ [putC p.F h off cnt v], 0⟩ := by
  unfold putS at hq ⊢
  split at hq
  · rename_i h1
    unfold refP at hq
    simp only at hq
    split at hq
    · exact absurd hq h1
    · rename_i h2; exact absurd hq h2
  · rename_i h1
    rw [if_neg h1]
    obtain ⟨h2, h3, h4⟩ := doS_ok hq
    exact ⟨h2, by omega, h3, by rw [h4]⟩
-- Split
noncomputable def spl1 (f : List Node) (h off : Int) : PS × Bool := doS (pen0 f) (mkCh (f.length + 1) (restN f h off))
noncomputable def spl2 (f : List Node) (h off : Int) : PS := (doS (spl1 f h off).1 (inCh (f.length + 1) (nodeAt f h).parent (placeP f h + 1))).1
noncomputable def spl3 (f : List Node) (h off : Int) : PS := (doS (spl2 f h off) (treeCh (nodeAt f h).parent (f.length + 1) h (besideP f h 1))).1
noncomputable def spl4 (f : List Node) (h off : Int) : PS := if (spl1 f h off).2 = true ∧ (nodeAt f h).parent ≠ 0 then (doS (spl3 f h off) (splitCh h (f.length + 1) off)).1 else (spl1 f h off).1
noncomputable def splQ (f : List Node) (h off : Int) : PS := putS (spl4 f h off) h off (restL f h off).length []
theorem node_insM {f : List Node} {x p i : Int} (hx : inR f x) (hp : inR f p) (hne : x ≠ p) (k : Int) : nodeAt (insFM f x p i) k = if k = p then { nodeAt f p with kids := insAt (nodeAt f p).kids i x } else if k = x then { nodeAt f x with parent := p } else nodeAt f k := by
  have hx1 := hx.1
  have hx2 := hx.2
  have hp1 := hp.1
  have hp2 := hp.2
  have hat : ∀ j : Int, 0 ≤ j → atI (insFM f x p i) j = if j = p - 1 then { atI f (p - 1) with kids := insAt (atI f (p - 1)).kids i x } else if j = x - 1 then { atI f (x - 1) with parent := p } else atI f j := by
    intro j h0
    unfold insFM
    rw [atI_upd _ _ _ (by omega) (by rw [upd_len]; omega) _ h0]
    by_cases e : j = x - 1
    · rw [if_pos e, if_neg (by omega), if_pos e, atI_upd _ _ _ (by omega) (by omega) _ (by omega), if_neg (by omega)]
    · rw [if_neg e, atI_upd _ _ _ (by omega) (by omega) _ h0, if_neg e]
  by_cases h : inR f k
  · have h1 := h.1
    have hg : inR (insFM f x p i) k := ⟨h.1, by rw [insFM_len]; exact h.2⟩
    rw [node_in hg, hat _ (by omega), node_in hp, node_in hx, node_in h]
    by_cases e1 : k = p
    · rw [if_pos (by omega), if_pos e1]
    · rw [if_neg (by omega), if_neg e1]
      by_cases e2 : k = x
      · rw [if_pos (by omega), if_pos e2]
      · rw [if_neg (by omega), if_neg e2]
  · have hg : ¬ inR (insFM f x p i) k := fun h2 => h ⟨h2.1, by have := h2.2; rw [insFM_len] at this; exact this⟩
    rw [node_out hg, if_neg (fun e : k = p => h (by rw [e]; exact hp)), if_neg (fun e : k = x => h (by rw [e]; exact hx)), node_out h]
theorem node_dat {f : List Node} {h : Int} (hh : inR f h) (d : List Int) (k : Int) : nodeAt (datF f h d) k = if k = h then { nodeAt f h with data := d } else nodeAt f k := by
  have h1 := hh.1
  have h2 := hh.2
  have hl : (datF f h d).length = f.length := by unfold datF; rw [upd_len]
  by_cases hk : inR f k
  · have hk1 := hk.1
    have hg : inR (datF f h d) k := ⟨hk.1, by rw [hl]; exact hk.2⟩
    rw [node_in hg, node_in hk, node_in hh]
    unfold datF
    rw [atI_upd _ _ _ (by omega) (by omega) _ (by omega)]
    by_cases e : k = h
    · rw [if_pos (by omega), if_pos e]
    · rw [if_neg (by omega), if_neg e]
  · have hg : ¬ inR (datF f h d) k := fun h2 => hk ⟨h2.1, by have := h2.2; rw [hl] at this; exact this⟩
    rw [node_out hg, if_neg (fun e : k = h => hk (by rw [e]; exact hh)), node_out hk]
end Go.Proofs.YtmhejcnaanocpaaGreat.A
namespace Go.Proofs.YtmhejcnaanocpaaGreat.A
set_option linter.unusedVariables false
set_option linter.unusedSimpArgs false
set_option maxRecDepth 100000
set_option maxHeartbeats 4000000
theorem node_self {f : List Node} (hr : rightP f) {h : Int} (hh : inR f h) : (nodeAt f h).parent = h → (nodeAt f h).kind = 12 := by
  intro e
  apply Classical.byContradiction
  intro h12
  have h1 : upN f h = h := by
    rw [upN_node hh]
    unfold aboveOf
    rw [if_neg h12]
    exact e
  have := reach_one hh
  rw [h1] at this
  exact reach_loop this (right_node hr hh).2.2
theorem text_data {k : Int} (h : textB k) : (traitsOf k).data = true ∧ k ≠ 12 ∧ (traitsOf k).hung = true := by
  rcases h with h | h <;> subst h <;> decide
theorem inv0 {f : List Node} (hf : Fit f) (hr : rightP f) {h : Int} (hh : inR f h) : InvP (pen0 f) := ⟨hf, hr, by have := hh.1; have := hh.2; show 0 < f.length; omega, fun c hc => by cases hc⟩
/-- Replacing up to the end. -/
theorem replP_end (l : List Int) (off cnt : Int) (v : List Int) (h0 : 0 ≤ off) (h1 : 0 ≤ cnt) (h2 : off ≤ l.length) (h3 : l.length ≤ off + cnt) : replP l off cnt v = if 16384 < off + v.length then ([], 4) else (l.take off.toNat ++ v, 0) := by
  have hs : spTo l.length off cnt = l.length := by unfold spTo; omega
  unfold replP
  rw [if_neg (by omega), hs]
  by_cases h : 16384 < off + v.length
  · rw [if_pos (by omega), if_pos h]
  · rw [if_neg (by omega), if_neg h]
    unfold replL
    rw [List.drop_eq_nil_of_le (by omega), List.append_nil]
theorem rest_eq (f : List Node) (h off : Int) (h0 : 0 ≤ off) (hl : (nodeAt f h).data.length ≤ 1000000000) (ho : off ≤ (nodeAt f h).data.length) : restL f h off = (nodeAt f h).data.drop off.toNat := by
  unfold restL subP
  rw [show spTo (nodeAt f h).data.length off 4294967295 = (nodeAt f h).data.length by unfold spTo; omega, List.take_of_length_le (by omega)]
section
variable {f : List Node} {h off : Int} (hf : Fit f) (hr : rightP f) (hh : inR f h) (ht : textB (nodeAt f h).kind) (h0 : 0 ≤ off) (ho : off ≤ (nodeAt f h).data.length)
include hf hr hh ht h0 ho
theorem restN_fit : FitN (restN f h off) := by
  have _ := hr; have _ := hh; have _ := ht; have _ := h0; have _ := ho
  exact ⟨Nat.le_trans (sub_len _ _ _) (hf.at h).data, by simp [restN, n0], by simp [restN, n0]⟩
theorem can1 : CanCh f (mkCh (f.length + 1) (restN f h off)) := .mk _ (restN_fit hf hr hh ht h0 ho) (by simp [restN])
theorem inv1 : InvP (spl1 f h off).1 := doS_inv (inv0 hf hr hh) fun _ => can1 hf hr hh ht h0 ho
theorem ok1 (hb : (spl1 f h off).2 = true) : spl1 f h off = (⟨f ++ [restN f h off], [mkCh (f.length + 1) (restN f h off)], 0⟩, true) := by
  have _ := hf; have _ := hr; have _ := hh; have _ := ht; have _ := h0; have _ := ho
  obtain ⟨_, h2, h3⟩ := doS_ok ((doS_iff _ _).1 hb)
  have e : spl1 f h off = _ := h3
  rw [e]
  have hd : doneG (pen0 f).F (mkCh (f.length + 1) (restN f h off)) = doneM f (restN f h off) := rfl
  rw [hd] at h2 ⊢
  unfold doneM at h2 ⊢
  split at h2
  · cases h2
  · rename_i h4
    rw [if_neg h4]
    split at h2
    · rename_i h5
      rw [if_pos h5]
      rfl
    · cases h2
theorem kids_at (hp : (nodeAt f h).parent ≠ 0) : inR f (nodeAt f h).parent ∧ 0 ≤ idx (nodeAt f (nodeAt f h).parent).kids h ∧ idx (nodeAt f (nodeAt f h).parent).kids h < (nodeAt f (nodeAt f h).parent).kids.length ∧ atI (nodeAt f (nodeAt f h).parent).kids (idx (nodeAt f (nodeAt f h).parent).kids h) = h ∧ placeP f h = idx (nodeAt f (nodeAt f h).parent).kids h := by
  have _ := hf; have _ := ht; have _ := h0; have _ := ho
  obtain ⟨hq, hm⟩ := right_mem hr hh hp
  obtain ⟨i, i0, i1, hi⟩ := mem_atI hm
  have e := idx_at (right_dup hr hq) i0 i1
  rw [hi] at e
  refine ⟨hq, by omega, by omega, by rw [e]; exact hi, by unfold placeP; omega⟩
theorem can2 (hp : (nodeAt f h).parent ≠ 0) (hw : (spl1 f h off).1.why = 0) : CanCh (spl1 f h off).1.F (inCh (f.length + 1) (nodeAt f h).parent (placeP f h + 1)) := by
  have e := ok1 hf hr hh ht h0 ho ((doS_iff _ _).2 hw)
  rw [e]
  obtain ⟨hq, i0, i1, _, hpl⟩ := kids_at hf hr hh ht h0 ho hp
  have hq1 := hq.1
  have hq2 := hq.2
  have en : nodeAt (f ++ [restN f h off]) (nodeAt f h).parent = nodeAt f (nodeAt f h).parent := by rw [node_snoc, if_neg (by omega)]
  refine .ins _ _ _ ⟨by omega, by simp⟩ ⟨hq1, by simp; omega⟩ (by omega) ?_ ?_
  · show placeP f h + 1 ≤ (nodeAt (f ++ [restN f h off]) (nodeAt f h).parent).kids.length
    rw [en]; omega
  · show (nodeAt (f ++ [restN f h off]) (f.length + 1)).parent = 0
    rw [node_snoc, if_pos rfl]
    rfl
theorem inv2 (hp : (nodeAt f h).parent ≠ 0) : InvP (spl2 f h off) := doS_inv (inv1 hf hr hh ht h0 ho) fun hw => can2 hf hr hh ht h0 ho hp hw
theorem inv3 (hp : (nodeAt f h).parent ≠ 0) : InvP (spl3 f h off) := doS_inv (inv2 hf hr hh ht h0 ho hp) fun _ => .tree _ _ _ _
theorem inv4 : InvP (spl4 f h off) := by
  unfold spl4
  split
  · rename_i hc
    exact doS_inv (inv3 hf hr hh ht h0 ho hc.2) fun _ => .spl _ _ _
  · exact inv1 hf hr hh ht h0 ho
/-- the forest ahead of the data's change. -/
theorem F4 (hw : (spl4 f h off).why = 0) : (spl1 f h off).2 = true ∧ (spl4 f h off).F = if (nodeAt f h).parent = 0 then f ++ [restN f h off] else insFM (f ++ [restN f h off]) (f.length + 1) (nodeAt f h).parent (placeP f h + 1) := by
  unfold spl4 at hw ⊢
  split at hw
  · rename_i hc
    rw [if_pos hc, if_neg hc.2]
    obtain ⟨w3, g3, e4⟩ := doS_ok hw
    obtain ⟨w2, g2, e3⟩ := doS_ok (p := spl2 f h off) w3
    obtain ⟨w1, g1, e2⟩ := doS_ok (p := (spl1 f h off).1) w2
    refine ⟨hc.1, ?_⟩
    rw [e4]
    have hs : (doneG (spl3 f h off).F (splitCh h (f.length + 1) off)).1 = (spl3 f h off).F := by
      have e : doneG (spl3 f h off).F (splitCh h (f.length + 1) off) = if ([h, (f.length : Int) + 1].all fun k => inB (spl3 f h off).F k) = true then ((spl3 f h off).F, 0) else ([], 2) := rfl
      rw [e] at g3 ⊢
      split at g3
      · rename_i h5; rw [if_pos h5]
      · cases g3
    show (doneG (spl3 f h off).F (splitCh h (f.length + 1) off)).1 = _
    rw [hs]
    have e3' : spl3 f h off = _ := congrArg Prod.fst e3
    rw [e3']
    have ht' : (doneG (spl2 f h off).F (treeCh (nodeAt f h).parent (f.length + 1) h (besideP f h 1))).1 = (spl2 f h off).F := by
      have e : doneG (spl2 f h off).F (treeCh (nodeAt f h).parent (f.length + 1) h (besideP f h 1)) = if dec (treeP (spl2 f h off).F (treeCh (nodeAt f h).parent (f.length + 1) h (besideP f h 1))) = true then ((spl2 f h off).F, 0) else ([], 2) := rfl
      rw [e] at g2 ⊢
      split at g2
      · rename_i h5; rw [if_pos h5]
      · cases g2
    show (doneG (spl2 f h off).F (treeCh (nodeAt f h).parent (f.length + 1) h (besideP f h 1))).1 = _
    rw [ht']
    have e2' : spl2 f h off = _ := congrArg Prod.fst e2
    rw [e2']
    have e1 := ok1 hf hr hh ht h0 ho hc.1
    rw [e1] at g1 ⊢
    have e : doneG (f ++ [restN f h off]) (inCh (f.length + 1) (nodeAt f h).parent (placeP f h + 1)) = doneA (f ++ [restN f h off]) (inCh (f.length + 1) (nodeAt f h).parent (placeP f h + 1)) := rfl
    show (doneG (f ++ [restN f h off]) (inCh (f.length + 1) (nodeAt f h).parent (placeP f h + 1))).1 = _
    rw [e]
    have g1 : (doneG (f ++ [restN f h off]) (inCh (f.length + 1) (nodeAt f h).parent (placeP f h + 1))).2 = 0 := g1
    rw [e] at g1
    unfold doneA at g1 ⊢
    split at g1
    · rename_i h5; rw [if_pos h5]; rfl
    · cases g1
  · rename_i hc
    rw [if_neg hc]
    have hb : (spl1 f h off).2 = true := (doS_iff _ _).2 hw
    have hp : (nodeAt f h).parent = 0 := by
      apply Classical.byContradiction
      intro h'
      exact hc ⟨hb, h'⟩
    rw [if_pos hp]
    refine ⟨hb, ?_⟩
    rw [ok1 hf hr hh ht h0 ho hb]
theorem node4 (hw : (spl4 f h off).why = 0) (k : Int) : nodeAt (spl4 f h off).F k = if (nodeAt f h).parent ≠ 0 ∧ k = (nodeAt f h).parent then { nodeAt f (nodeAt f h).parent with kids := insAt (nodeAt f (nodeAt f h).parent).kids (placeP f h + 1) (f.length + 1) } else if k = f.length + 1 then { restN f h off with parent := (nodeAt f h).parent } else nodeAt f k := by
  rw [(F4 hf hr hh ht h0 ho hw).2]
  by_cases hp : (nodeAt f h).parent = 0
  · rw [if_pos hp, if_neg (by omega), node_snoc, hp]
    rfl
  · obtain ⟨hq, i0, i1, _, hpl⟩ := kids_at hf hr hh ht h0 ho hp
    have hq1 := hq.1
    have hq2 := hq.2
    rw [if_neg hp, node_insM (f := f ++ [restN f h off]) ⟨by omega, by simp⟩ ⟨hq1, by simp; omega⟩ (by omega)]
    have en : nodeAt (f ++ [restN f h off]) (nodeAt f h).parent = nodeAt f (nodeAt f h).parent := by rw [node_snoc, if_neg (by omega)]
    rw [en]
    by_cases e1 : k = (nodeAt f h).parent
    · rw [if_pos e1, if_pos ⟨hp, e1⟩]
    · rw [if_neg e1, if_neg (show ¬ ((nodeAt f h).parent ≠ 0 ∧ k = (nodeAt f h).parent) from fun hx => e1 hx.2)]
      by_cases e2 : k = f.length + 1
      · rw [if_pos e2, if_pos e2, node_snoc, if_pos rfl]
      · rw [if_neg e2, if_neg e2, node_snoc, if_neg e2]
theorem self4 (hw : (spl4 f h off).why = 0) : nodeAt (spl4 f h off).F h = nodeAt f h ∧ inR (spl4 f h off).F h ∧ (spl4 f h off).F.length = f.length + 1 := by
  have h1 := hh.1
  have h2 := hh.2
  have hl : (spl4 f h off).F.length = f.length + 1 := by
    rw [(F4 hf hr hh ht h0 ho hw).2]
    split
    · simp
    · rw [insFM_len]; simp
  refine ⟨?_, ⟨h1, by omega⟩, hl⟩
  rw [node4 hf hr hh ht h0 ho hw, if_neg ?_, if_neg (by omega)]
  rintro ⟨hp, e⟩
  exact (text_data ht).2.1 (node_self hr hh e.symm)
theorem can5 (hw : (spl4 f h off).why = 0) (hre : (replP (nodeAt (spl4 f h off).F h).data off (restL f h off).length []).2 = 0) : CanCh (spl4 f h off).F (putC (spl4 f h off).F h off (restL f h off).length []) ∧ putC (spl4 f h off).F h off (restL f h off).length [] = daCh h off ((nodeAt f h).data.length - off) [] ∧ off ≤ 16384 := by
  obtain ⟨e, hin, hl⟩ := self4 hf hr hh ht h0 ho hw
  have hdl := (hf.at h).data
  have hre' := rest_eq f h off h0 hdl ho
  have hrl : ((restL f h off).length : Int) = (nodeAt f h).data.length - off := by rw [hre']; simp; omega
  have ep := replP_end (nodeAt f h).data off (restL f h off).length [] h0 (by omega) ho (by omega)
  rw [e, ep] at hre
  by_cases h16 : 16384 < off + (([] : List Int).length : Int)
  · rw [if_pos h16] at hre; cases hre
  · have h16' : off ≤ 16384 := by simp at h16; omega
    have ec : putC (spl4 f h off).F h off (restL f h off).length [] = daCh h off ((nodeAt f h).data.length - off) [] := by
      rw [putC_da, e, ep, if_neg h16]
      congr 1
      simp
      omega
    refine ⟨?_, ec, h16'⟩
    rw [ec]
    refine .dat _ _ _ _ hin (by rw [e]; exact (text_data ht).1) h0 (by omega) (by rw [e]; omega) (by simp) (by rw [e]; simp; omega)
theorem invQ : InvP (splQ f h off) := putS_inv (inv4 hf hr hh ht h0 ho) fun hw hre => (can5 hf hr hh ht h0 ho hw hre).1
/-- what comes of a split that is done. -/
structure SplitO (f : List Node) (h off : Int) (g : List Node) : Prop where
  fit : Fit g
  right : rightP g
  len : g.length = f.length + 1
  node : ∀ k, nodeAt g k = if k = h then { nodeAt f h with data := (nodeAt f h).data.take off.toNat } else if (nodeAt f h).parent ≠ 0 ∧ k = (nodeAt f h).parent then { nodeAt f (nodeAt f h).parent with kids := insAt (nodeAt f (nodeAt f h).parent).kids (placeP f h + 1) (f.length + 1) } else if k = f.length + 1 then { restN f h off with parent := (nodeAt f h).parent } else nodeAt f k
theorem split_out (hw : (splQ f h off).why = 0) : (spl1 f h off).2 = true ∧ SplitO f h off (splQ f h off).F ∧ (splQ f h off).L = (spl4 f h off).L ++ [daCh h off ((nodeAt f h).data.length - off) []] := by
  obtain ⟨w4, hre, hd, e⟩ := putS_ok hw
  obtain ⟨hc, ec, _⟩ := can5 hf hr hh ht h0 ho w4 hre
  obtain ⟨en, hin, hl⟩ := self4 hf hr hh ht h0 ho w4
  have hi := invQ hf hr hh ht h0 ho
  have eF : (splQ f h off).F = datF (spl4 f h off).F h ((nodeAt f h).data.take off.toNat) := by
    have e' : splQ f h off = _ := e
    rw [e']
    show (doneG (spl4 f h off).F (putC (spl4 f h off).F h off (restL f h off).length [])).1 = _
    rw [ec] at hd ⊢
    have ed : doneG (spl4 f h off).F (daCh h off ((nodeAt f h).data.length - off) []) = doneW (spl4 f h off).F h (repD (atI (spl4 f h off).F (h - 1)).data off ((nodeAt f h).data.length - off) []) := rfl
    rw [ed] at hd ⊢
    rw [← node_in hin, en, repD_end _ _ _ _ h0 (by omega) (by omega), List.append_nil] at hd ⊢
    unfold doneW at hd ⊢
    split at hd
    · rename_i h5; rw [if_pos h5]
    · cases hd
  refine ⟨(F4 hf hr hh ht h0 ho w4).1, ⟨hi.fit, hi.right, ?_, ?_⟩, ?_⟩
  · rw [eF]; unfold datF; rw [upd_len, hl]
  · intro k
    rw [eF, node_dat hin, en]
    by_cases e1 : k = h
    · rw [if_pos e1, if_pos e1]
    · rw [if_neg e1, if_neg e1, node4 hf hr hh ht h0 ho w4]
  · have e' : splQ f h off = _ := e
    rw [e', ec]
theorem splitS_of : SplitS f h off (spl1 f h off).1 (spl2 f h off) (spl3 f h off) (spl4 f h off) (splQ f h off) (spl1 f h off).2 where
  made := doS_R (inv0 hf hr hh) fun _ => can1 hf hr hh ht h0 ho
  lone := fun hc => by
    unfold spl4
    rw [if_neg]
    rintro ⟨a, b⟩
    rcases hc with hc | hc
    · rw [hc] at a; cases a
    · exact b hc
  ins := fun _ hp => ⟨_, doS_R (inv1 hf hr hh ht h0 ho) fun hw => can2 hf hr hh ht h0 ho hp hw⟩
  tree := fun _ hp => ⟨_, doS_R (inv2 hf hr hh ht h0 ho hp) fun _ => .tree _ _ _ _⟩
  spl := fun hb hp => ⟨_, by
    have := doS_R (inv3 hf hr hh ht h0 ho hp) (c := splitCh h (f.length + 1) off) fun _ => .spl _ _ _
    rw [show spl4 f h off = (doS (spl3 f h off) (splitCh h (f.length + 1) off)).1 by unfold spl4; rw [if_pos ⟨hb, hp⟩]]
    exact this⟩
  put := putS_R (inv4 hf hr hh ht h0 ho) fun hw hre => (can5 hf hr hh ht h0 ho hw hre).1
theorem len1 : (spl1 f h off).1.L.length ≤ 1 := by
  have _ := hf; have _ := hr; have _ := hh; have _ := ht; have _ := h0; have _ := ho
  have := doS_len (pen0 f) (mkCh (f.length + 1) (restN f h off)); exact this
theorem len2 : (spl2 f h off).L.length ≤ 2 := by have := doS_len (spl1 f h off).1 (inCh (f.length + 1) (nodeAt f h).parent (placeP f h + 1)); have := len1 hf hr hh ht h0 ho; unfold spl2; omega
theorem len3 : (spl3 f h off).L.length ≤ 3 := by have := doS_len (spl2 f h off) (treeCh (nodeAt f h).parent (f.length + 1) h (besideP f h 1)); have := len2 hf hr hh ht h0 ho; unfold spl3; omega
theorem len4 : (spl4 f h off).L.length ≤ 4 := by
  have := doS_len (spl3 f h off) (splitCh h (f.length + 1) off)
  have := len3 hf hr hh ht h0 ho
  have := len1 hf hr hh ht h0 ho
  unfold spl4
  split <;> omega
theorem lenQ : (splQ f h off).L.length ≤ 5 := by
  have := putS_len (spl4 f h off) h off (restL f h off).length []
  have := len4 hf hr hh ht h0 ho
  unfold splQ
  omega
end
/-- Split's answer. -/
noncomputable def splitA (f : List Node) (h off : Int) : AV :=
  if cfP f h true ≠ 0 then .tup [fav [], iav 0, .imm (.sl []), iav (cfP f h true)]
  else if ((nodeAt f h).data.length : Int) < off then .tup [fav [], iav 0, .imm (.sl []), iav 14]
  else if (splQ f h off).why ≠ 0 then .tup [fav [], iav 0, .imm (.sl []), iav (splQ f h off).why]
  else .tup [fav (splQ f h off).F, iav (f.length + 1), .imm (.sl ((splQ f h off).L.map Change.iv)), iav 0]
theorem splitA_c (f : List Node) (h off : Int) (hf : Fit f) (h0 : 0 ≤ off) (h1 : off < 4294967296) : PureC Tryz.prog 12 [fav f, iav h, u32 off] (splitA f h off) := by
  unfold splitA
  by_cases he : cfP f h true = 0
  · rw [if_neg (by omega)]
    obtain ⟨hr, hh, ht, _⟩ := cf_right he
    have ht := ht rfl
    by_cases ho : off ≤ (nodeAt f h).data.length
    · rw [if_neg (by omega)]
      have S := splitS_of hf hr hh ht h0 ho
      have hi := invQ hf hr hh ht h0 ho
      have l1 := len1 hf hr hh ht h0 ho
      have l2 := len2 hf hr hh ht h0 ho
      have l3 := len3 hf hr hh ht h0 ho
      have l4 := len4 hf hr hh ht h0 ho
      have lq := lenQ hf hr hh ht h0 ho
      have := split_c f h off _ _ _ _ _ _ hf he h0 h1 ho S (inv4 hf hr hh ht h0 ho).fit (by omega) (by omega) (by omega) (by omega) (by omega) (fun hw => by
        rw [(split_out hf hr hh ht h0 ho hw).2.2]; simp) (fun i i0 i1 => hi.chs _ (atI_mem i0 i1))
      unfold ansS at this
      by_cases hw : (splQ f h off).why = 0
      · rw [if_neg (by omega)]
        rw [if_pos hw, if_pos (split_out hf hr hh ht h0 ho hw).1] at this
        exact this
      · rw [if_pos hw]
        rw [if_neg hw] at this
        exact this
    · rw [if_pos (by omega)]
      exact splitOff_c f h off hf he h0 h1 (by omega)
  · rw [if_pos he]
    exact splitNo_c f h off hf he
end Go.Proofs.YtmhejcnaanocpaaGreat.A
