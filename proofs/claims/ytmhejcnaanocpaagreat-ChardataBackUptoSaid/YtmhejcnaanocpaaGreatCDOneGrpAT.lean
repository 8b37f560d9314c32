/- Contracts: a node of own rows, slices.Replace up to the end, forest.data. -/
import Derived.Test.YtmhejcnaanocpaaGreatCDOneGrpAS
import Derived.Test.YtmhejcnaanocpaaGreatCDOneGrpAP
namespace Go.Proofs.YtmhejcnaanocpaaGreat.A
open Go.RowKit
set_option linter.unusedVariables false
set_option linter.unusedSimpArgs false
set_option maxRecDepth 100000
set_option maxHeartbeats 4000000
theorem call155 : Callable Tryz.prog 155 := fun vs w => by
  unfold callFunc
  have hp : (program).run Tryz.prog w = .ok Tryz.prog w := rfl
  rw [run_bind hp, Tryz.func155]
  rfl
theorem sl_src {M : Mm} {v : List Int} {x : Value} {W : World} (hW : M.W = W) (h : RepA M (.imm (.sl (v.map u16))) x) : ∃ vA vc, x = .slice vA v.length vc ∧ Src Tryz.prog 1 35 (.slice vA v.length vc) v.length (v.map (Value.int .u16)) W := by
  subst hW
  have d1 : Tryz.prog.underlying 35 = some (.slice 55) := Tryz.underlying35
  cases h with
  | imm _ _ h =>
    generalize hr : v.map u16 = rows at h
    cases h with
    | nil A c =>
      have hv : v = [] := List.map_eq_nil_iff.1 hr
      subst hv
      refine ⟨A, c, rfl, ?_⟩
      cases A with
      | none => exact Src.ofNil _ d1 c
      | some ad => exact Src.ofSlice _ d1 ad 0 c [] (by simp) (by simp) (by simp)
    | sl _ ad n c sz ys g0 hsz hn hc hb hrl hyc hrep =>
      subst hr
      have hlen : n = v.length := by rw [hn, List.length_map]
      subst hlen
      have e : ys = v.map (Value.int .u16) := by
        have key : ∀ {l : List Int} {zs : List Value}, All2 (RepI M.W M.N) (l.map u16).flatten zs → zs = l.map (Value.int .u16) := by
          intro l
          induction l with
          | nil => intro zs h; cases h; rfl
          | cons a l ih =>
            intro zs h
            cases h with
            | cons h1 h2 => rw [h1.int_inv, ih h2]; rfl
        exact key hrep
      subst e
      refine ⟨some ad, c, rfl, Src.ofSlice _ d1 ad _ c _ (by simp) hyc (fun u hu => ?_)⟩
      obtain ⟨z, _, rfl⟩ := List.mem_map.1 hu
      rfl
theorem repE_c (l v : List Int) (i : Int) (h0 : 0 ≤ i) (h1 : i < l.length) (hl : l.length ≤ 1000000000) (hv : v.length ≤ 1000000000) : GenC Tryz.prog 155 [⟨55, 1, l.map cU⟩] [.os 0 l.length, iav i, iav l.length, .imm (.sl (v.map u16))] (.sub 0 (repL l v i.toNat).length 0 (i.toNat + v.length)) [⟨55, 1, (repL l v i.toNat).map cU⟩] := by
  refine ⟨call155, fun W X γ κ xs hC hargs => ?_⟩
  obtain ⟨k, rfl⟩ : ∃ k : Nat, i = k := ⟨i.toNat, by omega⟩
  have hk : k < l.length := by omega
  cases hargs with
  | cons a0 t =>
    cases t with
    | cons a1 t =>
      cases t with
      | cons a2 t =>
        cases t with
        | cons a3 t =>
          cases t
          have e0 := a0.os_val (b := ⟨55, 1, l.map cU⟩) rfl (by simp)
          have e1 := iav_val a1
          have e2 := iav_val a2
          obtain ⟨vA, vc, e3, hsrc⟩ := sl_src rfl a3
          subst e0 e1 e2 e3
          exact coreRepU hC (id := 0) (l := l) (v := v) (i := k) rfl hk hl hv hsrc
def cellD (n : Node) (k : AV) : List AV := nodeRowD n k
theorem at_g (f : List Node) (p : Int) (d : List Int) (hf : Fit f) (hp : 0 ≤ p) (hp1 : p < f.length) : GenC Tryz.prog 145 [⟨44, 16, rowsD f p (.os 1 d.length)⟩, ⟨55, 1, d.map cU⟩] [.agg [.os 0 f.length], iav (p + 1)] (.tup [.agg (nodeRowD (atI f p) (.os 1 d.length)), bav true]) [⟨44, 16, rowsD f p (.os 1 d.length)⟩, ⟨55, 1, d.map cU⟩] := by
  have hl := hf.len
  have hR := rowsD_len f p (.os 1 d.length)
  have hsc : (rowsD f p (.os 1 d.length)).all (fun r => r.all (AV.sc1 2)) = true := rowsD_sc f _ _ 2 rfl
  have hat : atI (rowsD f p (.os 1 d.length)) (p + 1 - 1) = nodeRowD (atI f p) (.os 1 d.length) := by
    rw [show p + 1 - 1 = p by omega, rowsD_at f _ _ (by omega) (by omega) _ (by omega) (by omega), if_pos rfl]
  have gat := get_atI (by omega) (by omega) hat
  refine GenC.mk tabs Tryz.func145 22 [.cell 4 44, .tmp 5] rfl rfl rfl rfl rfl ?_; intro w0 X γ κ
  (repeat' (first | ((with_reducible show AL _ _ _ _ _); first | (refine AL.step tabs rfl ?_; try dsimp only [len, List.nil_append, List.cons_append]) | refine AL.ope rfl (OpOK.len_os (b := ⟨44, 16, rowsD f p (.os 1 d.length)⟩) tabs rfl rfl rfl rfl rfl rfl hR.symm) rfl ?_ | (refine AL.op rfl (OpOK.ari64 rfl rfl rfl rfl rfl (by omega) (by omega)) ?_) | refine AL.ope rfl (OpOK.index_own (b := ⟨44, 16, rowsD f p (.os 1 d.length)⟩) tabs rfl rfl rfl rfl rfl rfl rfl rfl hR.symm rfl (by omega) (by omega)) rfl ?_ | refine AL.ope rfl (OpOK.load_own (i := ti44) (r := nodeRowD (atI f p) (.os 1 d.length)) (b := ⟨44, 16, rowsD f p (.os 1 d.length)⟩) (row := (p + 1 - 1).toNat) tabs rfl rfl rfl rfl rfl hR.symm gat rfl) rfl ?_ | refine AL.nil ?_ | (refine AL.gsplitE rfl rfl rfl (fun hc => ?_) (fun hc => ?_) <;> (fail_if_success (exact absurd hc (by decide))) <;> (try simp only [hsx] at hc) <;> (try first | (exfalso; omega) | contradiction | (exfalso; simp [dec_eq] at hc; done))) | (refine AL.op rfl (OpOK.ari64 rfl rfl rfl rfl rfl (by omega) (by omega)) ?_) | (refine AL.op rfl (OpOK.index_map tabs rfl rfl rfl rfl rfl rfl rfl (fun _ => rfl) (by decide) (by omega) (by omega)) ?_)) | refine AW.seq ?_ | refine AW.region ?_ | refine Then.norm ?_ | refine AW.skip ?_ | refine AW.condT rfl ?_ | refine AW.condF rfl ?_ | (refine AW.cond rfl (fun hc => ?_) (fun hc => ?_) <;> (try simp only [hsx] at hc) <;> (try first | (exfalso; omega) | contradiction | (exfalso; simp [dec_eq] at hc; done))) | refine AW.ret ?_ | refine Then.ret ?_))
  all_goals first
    | (exfalso; omega)
    | (refine RG.ret 2 rfl rfl rfl rfl ?_ (by simp [cxG])
       simp only [List.all_cons, List.all_nil, Bool.and_true, Bool.and_eq_true]
       exact ⟨hsc, (by simp only [List.all_cons, List.all_nil, List.all_map, Function.comp_def, cI, cB, cU, iav, bav, AV.sc1, AV.sc0, Bool.and_true, Bool.and_self, all_tt]; try rfl)⟩)
theorem renB_cU (ρ : Nat → Nat) (ty sz : Nat) (l : List Int) : renB ρ ⟨ty, sz, l.map cU⟩ = ⟨ty, sz, l.map cU⟩ := by
  unfold renB
  congr 1
  simp [cU, ren1, ren0]
theorem rowsD_ren (ρ : Nat → Nat) (f : List Node) (p : Int) (k : AV) : renB ρ ⟨44, 16, rowsD f p k⟩ = ⟨44, 16, rowsD f p (ren1 ρ k)⟩ := by
  unfold renB rowsD
  congr 1
  rw [List.map_set, List.map_map]
  congr 1
theorem fdata_c (f : List Node) (c : Change) (all : List Int) (m : Nat) (hf : Fit f) (h1 : 1 ≤ c.node) (h2 : c.node ≤ f.length) (hd : (traitsOf (atI f (c.node - 1)).kind).data = true)
    (ho0 : 0 ≤ c.offset) (hc0 : 0 ≤ c.count) (hoc : c.offset + c.count ≤ (atI f (c.node - 1)).data.length)
    (hrep : GenC Tryz.prog 155 [⟨55, 1, (atI f (c.node - 1)).data.map cU⟩] [.os 0 (atI f (c.node - 1)).data.length, iav c.offset, iav (c.offset + c.count), .imm (.sl (c.data.map u16))] (.sub 0 all.length 0 m) [⟨55, 1, all.map cU⟩]) :
    GenC Tryz.prog 120 [⟨24, 1, [[.os 1 f.length]]⟩, ⟨44, 16, rowsD f (c.node - 1) (.os 2 (atI f (c.node - 1)).data.length)⟩, ⟨55, 1, (atI f (c.node - 1)).data.map cU⟩] [.ptr 0 1 0 0, c.av] (bav true)
      [⟨24, 1, [[.os 1 f.length]]⟩, ⟨44, 16, rowsD f (c.node - 1) (.sub 2 all.length 0 m)⟩, ⟨55, 1, all.map cU⟩] := by
  have hl := hf.len
  obtain ⟨nd, hnd⟩ : ∃ nd, nd = atI f (c.node - 1) := ⟨_, rfl⟩
  have hfn : nd.data.length ≤ 1000000000 := by rw [hnd]; exact (hf.atI (c.node - 1) (by omega) (by omega)).data
  have hR := rowsD_len f (c.node - 1) (.os 2 nd.data.length)
  have hat := at_g f (c.node - 1) nd.data hf (by omega) (by omega)
  rw [show c.node - 1 + 1 = c.node by omega, ← hnd] at hat
  have hpar : atI (rowsD f (c.node - 1) (.os 2 nd.data.length)) (c.node - 1) = nodeRowD nd (.os 2 nd.data.length) := by
    rw [rowsD_at f _ _ (by omega) (by omega) _ (by omega) (by omega), if_pos rfl, hnd]
  have gpar := get_atI (by omega) (by omega) hpar
  rw [← hnd] at hd hoc hrep ⊢
  have hset : (rowsD f (c.node - 1) (.os 2 nd.data.length)).set (c.node - 1).toNat (nodeRowD nd (.sub 2 all.length 0 m)) = rowsD f (c.node - 1) (.sub 2 all.length 0 m) := by
    unfold rowsD
    rw [List.set_set, hnd]
  have hsc : ∀ k, 3 ≤ k → (rowsD f (c.node - 1) (.os 2 nd.data.length)).all (fun r => r.all (AV.sc1 k)) = true := fun k hk => rowsD_sc f _ _ k (by simp only [AV.sc1, AV.sc0, Nat.blt_eq]; omega)
  refine GenC.mk tabs Tryz.func120 75 [.tmp 4] rfl rfl rfl rfl rfl ?_; intro w0 X γ κ
  refine AW.reserve 44 16 rfl ?_
  (repeat' (first | ((with_reducible show AL _ _ _ _ _); first | (refine AL.step tabs rfl ?_; try dsimp only [len, List.nil_append, List.cons_append]) | refine AL.op rfl (OpOK.call rfl rfl rfl rfl (traits_c nd.kind) rfl) ?_ | refine AL.ope rfl (OpOK.len_os (b := ⟨55, 1, nd.data.map cU⟩) tabs rfl rfl rfl rfl rfl rfl (by simp)) rfl ?_ | refine AL.nil ?_ | (refine AL.gsplitE rfl rfl rfl (fun hc => ?_) (fun hc => ?_) <;> (fail_if_success (exact absurd hc (by decide))) <;> (try simp only [hsx] at hc) <;> (try first | (exfalso; omega) | contradiction | (exfalso; simp [dec_eq] at hc; done))) | (refine AL.op rfl (OpOK.ari64 rfl rfl rfl rfl rfl (by omega) (by omega)) ?_) | (refine AL.op rfl (OpOK.index_map tabs rfl rfl rfl rfl rfl rfl rfl (fun _ => rfl) (by decide) (by omega) (by omega)) ?_)) | ((with_reducible show DQ _ _ _ _ _ _); first | refine DQ.stepc (LS.alloc 3 tabs rfl rfl rfl rfl rfl rfl) rfl rfl rfl rfl rfl ?_ | refine DQ.stepc (LS.store (i := ti44) (v := .agg (nodeRowD nd (.os 2 nd.data.length))) (ty := 44) (sz := 16) (rows := [ti44.zero]) (r := ti44.zero) tabs rfl rfl rfl rfl rfl rfl rfl rfl rfl rfl (Nat.le_of_ble_eq_true rfl) rfl) rfl rfl rfl rfl rfl ?_ | refine DQ.stepc (LS.index_own (b := ⟨44, 16, rowsD f (c.node - 1) (.os 2 nd.data.length)⟩) tabs rfl rfl rfl rfl rfl rfl rfl rfl rfl hR.symm rfl (by omega) (by omega)) rfl rfl rfl rfl rfl ?_ | refine DQ.stepc (LS.fieldAddr (b := ⟨44, 16, rowsD f (c.node - 1) (.os 2 nd.data.length)⟩) tabs rfl rfl rfl rfl rfl rfl rfl rfl rfl hR.symm) rfl rfl rfl rfl rfl ?_ | refine DQ.stepc (LS.store (i := ti36) (v := .sub 2 all.length 0 m) (ty := 44) (sz := 16) (rows := rowsD f (c.node - 1) (.os 2 nd.data.length)) (r := nodeRowD nd (.os 2 nd.data.length)) tabs rfl rfl rfl rfl rfl rfl rfl hR.symm rfl rfl (by decide) gpar) rfl rfl rfl rfl rfl ?_ | refine DQ.stepc (LS.val tabs rfl rfl rfl) rfl rfl rfl rfl rfl ?_ | refine DQ.stepc (LS.skip rfl rfl) rfl rfl rfl rfl rfl ?_ | refine DQ.nilM (by kernel_rfl) ?_ | refine DQ.stepc (LS.ari64 rfl rfl rfl rfl rfl rfl (by omega) (by omega)) rfl rfl rfl rfl rfl ?_ | refine DQ.stepc (LS.index_map tabs rfl rfl rfl rfl rfl rfl rfl rfl (fun _ => rfl) (by decide) (by omega) (by omega)) rfl rfl rfl rfl rfl ?_ | (refine DQ.gsplitE rfl rfl rfl (fun hc => ?_) (fun hc => ?_) <;> (fail_if_success (exact absurd hc (by decide))) <;> (try simp only [hsx] at hc) <;> (try first | (exfalso; omega) | contradiction | (exfalso; simp [dec_eq] at hc; done)))) | ((with_reducible show M2.DQ _ _ _ _ _ _); first | refine M2.DQ.step2 (M2.LS.callG [1, 2] (caps := []) rfl rfl rfl rfl rfl hat (fun _ => rfl) (bs := [⟨44, 16, rowsD f (c.node - 1) (.os 2 nd.data.length)⟩, ⟨55, 1, nd.data.map cU⟩]) rfl (fun n => by simp only [List.map_cons, List.map_nil, rowsD_ren, renB_cU]; rfl) rfl rfl (by simp only [List.all_cons, List.all_nil, Bool.and_true, Bool.and_eq_true]; exact ⟨rowsD_sc _ _ _ _ rfl, (by simp only [List.all_cons, List.all_nil, List.all_map, Function.comp_def, cI, cB, cU, iav, bav, AV.sc1, AV.sc0, Bool.and_true, Bool.and_self, all_tt]; try rfl)⟩) rfl (by simp only [List.all_cons, List.all_nil, Bool.and_true, Bool.and_eq_true]; exact ⟨rowsD_sc _ _ _ _ rfl, (by simp only [List.all_cons, List.all_nil, List.all_map, Function.comp_def, cI, cB, cU, iav, bav, AV.sc1, AV.sc0, Bool.and_true, Bool.and_self, all_tt]; try rfl)⟩) rfl (hpA := [⟨44, 16, rowsD f (c.node - 1) (.os 2 nd.data.length)⟩, ⟨55, 1, nd.data.map cU⟩]) (fun n => by simp only [List.map_cons, List.map_nil, rowsD_ren, renB_cU]; rfl) (r' := .tup [.agg (nodeRowD nd (.os 2 nd.data.length)), bav true]) (fun _ => rfl)) rfl rfl rfl rfl rfl ?_ | refine M2.DQ.step2 (M2.LS.callG [2] (caps := []) rfl rfl rfl rfl rfl hrep (fun _ => rfl) (bs := [⟨55, 1, nd.data.map cU⟩]) rfl (fun n => by simp only [List.map_cons, List.map_nil, renB_cU]) rfl rfl (by simp only [List.all_cons, List.all_nil, List.all_map, Function.comp_def, cI, cB, cU, iav, bav, AV.sc1, AV.sc0, Bool.and_true, Bool.and_self, all_tt]; try rfl) rfl (by simp only [List.all_cons, List.all_nil, List.all_map, Function.comp_def, cI, cB, cU, iav, bav, AV.sc1, AV.sc0, Bool.and_true, Bool.and_self, all_tt]; try rfl) rfl (hpA := [⟨55, 1, all.map cU⟩]) (fun n => by simp only [List.map_cons, List.map_nil, renB_cU]) (r' := .sub 2 all.length 0 m) (fun _ => rfl)) rfl rfl rfl rfl rfl ?_ | refine M2.DQ.stepc (LS.alloc 3 tabs rfl rfl rfl rfl rfl rfl) rfl rfl rfl rfl rfl ?_ | refine M2.DQ.stepc (LS.store (i := ti44) (v := .agg (nodeRowD nd (.os 2 nd.data.length))) (ty := 44) (sz := 16) (rows := [ti44.zero]) (r := ti44.zero) tabs rfl rfl rfl rfl rfl rfl rfl rfl rfl rfl (Nat.le_of_ble_eq_true rfl) rfl) rfl rfl rfl rfl rfl ?_ | refine M2.DQ.stepc (LS.index_own (b := ⟨44, 16, rowsD f (c.node - 1) (.os 2 nd.data.length)⟩) tabs rfl rfl rfl rfl rfl rfl rfl rfl rfl hR.symm rfl (by omega) (by omega)) rfl rfl rfl rfl rfl ?_ | refine M2.DQ.stepc (LS.fieldAddr (b := ⟨44, 16, rowsD f (c.node - 1) (.os 2 nd.data.length)⟩) tabs rfl rfl rfl rfl rfl rfl rfl rfl rfl hR.symm) rfl rfl rfl rfl rfl ?_ | refine M2.DQ.stepc (LS.store (i := ti36) (v := .sub 2 all.length 0 m) (ty := 44) (sz := 16) (rows := rowsD f (c.node - 1) (.os 2 nd.data.length)) (r := nodeRowD nd (.os 2 nd.data.length)) tabs rfl rfl rfl rfl rfl rfl rfl hR.symm rfl rfl (by decide) gpar) rfl rfl rfl rfl rfl ?_ | refine M2.DQ.stepc (LS.val tabs rfl rfl rfl) rfl rfl rfl rfl rfl ?_ | refine M2.DQ.stepc (LS.skip rfl rfl) rfl rfl rfl rfl rfl ?_ | refine M2.DQ.nilM (by kernel_rfl) ?_ | refine M2.DQ.stepc (LS.ari64 rfl rfl rfl rfl rfl rfl (by omega) (by omega)) rfl rfl rfl rfl rfl ?_ | refine M2.DQ.stepc (LS.index_map tabs rfl rfl rfl rfl rfl rfl rfl rfl (fun _ => rfl) (by decide) (by omega) (by omega)) rfl rfl rfl rfl rfl ?_ | (refine M2.DQ.gsplitE rfl rfl rfl (fun hc => ?_) (fun hc => ?_) <;> (fail_if_success (exact absurd hc (by decide))) <;> (try simp only [hsx] at hc) <;> (try first | (exfalso; omega) | contradiction | (exfalso; simp [dec_eq] at hc; done)))) | (exfalso; omega) | refine M2.drawW (id := 1) mixed (by kernel_rfl) ?_ | refine M2.drawW (id := 4) mixed (by kernel_rfl) ?_ | refine AW.seq ?_ | refine AW.region ?_ | refine Then.norm ?_ | refine AW.skip ?_ | refine AW.condT rfl ?_ | refine AW.condF rfl ?_ | (refine AW.cond rfl (fun hc => ?_) (fun hc => ?_) <;> (try simp only [hsx] at hc) <;> (try first | (exfalso; omega) | contradiction | (exfalso; simp [dec_eq] at hc; done))) | refine AW.ret ?_ | refine Then.ret ?_ | refine AW.drawW mixed (by kernel_rfl) ?_))
  all_goals first
    | (exfalso; omega)
    | (refine RG.ret 3 rfl rfl (by rw [← hset]; rfl) rfl ?_ (by simp [cxG])
       simp only [List.all_cons, List.all_nil, Bool.and_true, Bool.and_eq_true]
       exact ⟨rfl, rowsD_sc _ _ _ _ rfl, (by simp only [List.all_cons, List.all_nil, List.all_map, Function.comp_def, cI, cB, cU, iav, bav, AV.sc1, AV.sc0, Bool.and_true, Bool.and_self, all_tt]; try rfl)⟩)
    | (exfalso; rw [hd] at hc; cases hc)
end Go.Proofs.YtmhejcnaanocpaaGreat.A
namespace Go.Proofs.YtmhejcnaanocpaaGreat.A
set_option linter.unusedVariables false
set_option linter.unusedSimpArgs false
set_option maxRecDepth 100000
set_option maxHeartbeats 4000000
theorem insFM_kids (f : List Node) (node parent idx : Int) (h1 : 1 ≤ node) (h2 : node ≤ f.length) (h3 : 1 ≤ parent) (h4 : parent ≤ f.length) : (atI (insFM f node parent idx) (parent - 1)).kids = insAt (atI f (parent - 1)).kids idx node := by
  unfold insFM
  rw [atI_upd _ _ _ (by omega) (by rw [upd_len]; omega) _ (by omega)]
  by_cases e : parent - 1 = node - 1
  · rw [if_pos e, ← e, atI_upd _ _ _ (by omega) (by omega) _ (by omega), if_pos rfl]
  · rw [if_neg e, atI_upd _ _ _ (by omega) (by omega) _ (by omega), if_pos rfl]
theorem insFM_fit (f : List Node) (c : Change) (hf : Fit f) (h1 : 1 ≤ c.node) (h2 : c.node ≤ f.length) (h3 : 1 ≤ c.parent) (h4 : c.parent ≤ f.length) (hi0 : 0 ≤ c.index) (hi1 : c.index ≤ (atI f (c.parent - 1)).kids.length) (hk : (atI f (c.parent - 1)).kids.length < 1000000000) : Fit (insFM f c.node c.parent c.index) := by
  have e1 : Fit (updAt f (c.parent - 1) { atI f (c.parent - 1) with kids := insAt (atI f (c.parent - 1)).kids c.index c.node }) := by
    have := hf.atI (c.parent - 1) (by omega) (by omega)
    exact upd_fit hf ⟨this.data, this.attrs, by show (insAt _ _ _).length ≤ _; rw [insAt_len _ _ _ hi0 hi1]; omega⟩
  unfold insFM
  have := e1.atI (c.node - 1) (by omega) (by rw [upd_len]; omega)
  exact upd_fit e1 ⟨this.data, this.attrs, this.kids⟩
noncomputable def doneA (f : List Node) (c : Change) : List Node × Int := if dec (rightP (insFM f c.node c.parent c.index)) = true then (insFM f c.node c.parent c.index, 0) else ([], 2)
theorem doneIM_c (f : List Node) (c : Change) (hf : Fit f) (h0 : 0 < f.length) (hck : c.kind = 2) (hcp : plainLn c = c) (hkl : (atI f (c.parent - 1)).kids.length < 1000000000) (h1 : 1 ≤ c.node) (h2 : c.node ≤ f.length) (h3 : 1 ≤ c.parent) (h4 : c.parent ≤ f.length) (hi0 : 0 ≤ c.index) (hi1 : c.index < (atI f (c.parent - 1)).kids.length) (hp0 : (atI f (c.node - 1)).parent = 0) : PureC Tryz.prog 71 [fav f, c.av] (.tup [fav (doneA f c).1, iav (doneA f c).2]) := by
  have hk : (atI f (c.parent - 1)).kids ≠ [] := fun e => by rw [e] at hi1; simp at hi1; omega
  have hsame : PureC Tryz.prog 96 [c.av, (plainLn c).av] (bav true) := by
    rw [hcp]
    exact sameSelf_c c (by rw [← hcp]; simp [plainLn, c0]) (by rw [← hcp]; exact fit0) (by rw [← hcp]; simp [plainLn, c0]) (by rw [← hcp]; simp [plainLn, c0]) (by omega) (by omega)
  have hins := insertM_c f c hf h1 h2 h3 h4 hi0 hi1 hp0
  have hfst : ∀ j : Nat, j < 1 → stepKeys[j]? ≠ some c.kind := by
    intro j hj
    have : j = 0 := by omega
    subst this; rw [hck]; decide
  have hil := insFM_len f c.node c.parent c.index
  have hki : (atI (insFM f c.node c.parent c.index) (c.parent - 1)).kids = insAt (atI f (c.parent - 1)).kids c.index c.node := insFM_kids f c.node c.parent c.index h1 h2 h3 h4
  have hfi := insFM_fit f c hf h1 h2 h3 h4 hi0 (by omega) hkl
  have fzI_ : ∀ {C : Cx} {s : St}, nth s.hp 0 = some ⟨44, 16, rowsK (insFM f c.node c.parent c.index) (c.parent - 1) (.os 1 (insAt (atI f (c.parent - 1)).kids c.index c.node).length)⟩ → nth s.hp 1 = some ⟨3, 1, (insAt (atI f (c.parent - 1)).kids c.index c.node).map cI⟩ → Fz C s (.agg [.os 0 f.length]) (fav (insFM f c.node c.parent c.index)) := by
    intro C s g1 g2
    have := fzK (C := C) (s := s) (f := insFM f c.node c.parent c.index) (p := c.parent - 1) (id := 0) (kid := 1) (m := (insAt (atI f (c.parent - 1)).kids c.index c.node).length) (by omega) (by omega) (by rw [hki]) g1 (by rw [hki]; exact g2)
    rw [hil] at this
    exact this
  refine PureC.mk tabs Tryz.func71 51 [.cell 4 24, .tmp 5] rfl rfl rfl rfl rfl ?_; intro w0 X
  refine AW.reserve 44 16 rfl ?_
  refine AW.reserve 3 1 rfl ?_
  refine AW.reserve 126 4 rfl ?_
  (repeat' (first | ((with_reducible show AL _ _ _ _ _); first | (refine AL.step tabs rfl ?_; try dsimp only [len, List.nil_append, List.cons_append]) | refine AL.callG [0, 1] 6 rfl rfl rfl rfl rfl (caps := []) rfl (copyOfK_c f (c.parent - 1) hf (by omega) (by omega) hk) rfl rfl rfl rfl rfl rfl (by simp only [List.all_cons, List.all_nil, Bool.and_true, Bool.and_eq_true]; exact ⟨rowsK_sc _ _ _ _ rfl, (by simp only [List.all_cons, List.all_nil, List.all_map, Function.comp_def, cI, cB, cU, iav, bav, AV.sc1, AV.sc0, Bool.and_true, Bool.and_self, all_tt]; try rfl)⟩) rfl (hpA := [⟨44, 16, rowsK f (c.parent - 1) (.os 1 (atI f (c.parent - 1)).kids.length)⟩, ⟨3, 1, (atI f (c.parent - 1)).kids.map cI⟩]) (by simp only [List.map_cons, List.map_nil, rowsK_ren, renB_cI]; rfl) (r' := .agg [.os 0 f.length]) rfl rfl ?_ | refine AL.callG [6, 0, 1] 7 rfl rfl rfl rfl rfl (caps := []) rfl hins rfl (by simp only [List.map_cons, List.map_nil, rowsK_ren, renB_cI]; rfl) rfl rfl (by simp only [List.all_cons, List.all_nil, Bool.and_true, Bool.and_eq_true]; exact ⟨rfl, rowsK_sc _ _ _ _ rfl, (by simp only [List.all_cons, List.all_nil, List.all_map, Function.comp_def, cI, cB, cU, iav, bav, AV.sc1, AV.sc0, Bool.and_true, Bool.and_self, all_tt]; try rfl)⟩) rfl (by simp only [List.all_cons, List.all_nil, Bool.and_true, Bool.and_eq_true]; exact ⟨rfl, rowsK_sc _ _ _ _ rfl, (by simp only [List.all_cons, List.all_nil, List.all_map, Function.comp_def, cI, cB, cU, iav, bav, AV.sc1, AV.sc0, Bool.and_true, Bool.and_self, all_tt]; try rfl)⟩) rfl (hpA := [⟨24, 1, [[.os 0 f.length]]⟩, ⟨44, 16, rowsK (insFM f c.node c.parent c.index) (c.parent - 1) (.os 1 (insAt (atI f (c.parent - 1)).kids c.index c.node).length)⟩, ⟨3, 1, (insAt (atI f (c.parent - 1)).kids c.index c.node).map cI⟩]) (by simp only [List.map_cons, List.map_nil, rowsK_ren, renB_cI]; rfl) (r' := bav true) rfl rfl ?_ | refine AL.op rfl (OpOK.callsc rfl rfl rfl rfl (.cons (fzI_ rfl rfl) .nil) (right_c (insFM f c.node c.parent c.index) hfi) rfl) ?_ | refine AL.nil ?_ | (refine AL.gsplitE rfl rfl rfl (fun hc => ?_) (fun hc => ?_) <;> (fail_if_success (exact absurd hc (by decide))) <;> (try simp only [hsx] at hc) <;> (try first | (exfalso; omega) | contradiction | (exfalso; simp [dec_eq] at hc; done)))) | ((with_reducible show DQ _ _ _ _ _ _); first | refine DQ.stepc (LS.call rfl rfl rfl rfl rfl steps_c rfl) rfl rfl rfl rfl rfl ?_ | refine DQ.stepc (LS.lookOk (kf := k8) (q := c.kind) (xs := stepKeys) (i := 1) (v := [.fn 112, .fn 113, .bool false, .any]) key56 Tryz.underlying128 zero126 rfl rfl rfl rfl rfl rfl (by rw [hck]; rfl) hfst rfl) rfl rfl rfl rfl rfl ?_ | refine DQ.stepc (LS.alloc 2 tabs rfl rfl rfl rfl rfl rfl) rfl rfl rfl rfl rfl ?_ | refine DQ.stepc (LS.store (i := ti126) (v := .agg [.imm (.fn 112), .imm (.fn 113), .imm (.bool false), .imm .any]) (ty := 126) (sz := 4) (rows := [ti126.zero]) (r := ti126.zero) tabs rfl rfl rfl rfl rfl rfl rfl rfl rfl rfl (Nat.le_of_ble_eq_true rfl) rfl) rfl rfl rfl rfl rfl ?_ | refine DQ.stepc (LS.call rfl rfl rfl rfl rfl (plainLink_c c) rfl) rfl rfl rfl rfl rfl ?_ | refine DQ.stepc (LS.call rfl rfl rfl rfl rfl hsame rfl) rfl rfl rfl rfl rfl ?_ | refine DQ.stepc (LS.val tabs rfl rfl rfl) rfl rfl rfl rfl rfl ?_ | refine DQ.stepc (LS.skip rfl rfl) rfl rfl rfl rfl rfl ?_ | refine DQ.nilM (by kernel_rfl) ?_ | (refine DQ.gsplitE rfl rfl rfl (fun hc => ?_) (fun hc => ?_) <;> (fail_if_success (exact absurd hc (by decide))) <;> (try simp only [hsx] at hc) <;> (try first | (exfalso; omega) | contradiction | (exfalso; simp [dec_eq] at hc; done)))) | refine AW.seq ?_ | refine AW.region ?_ | refine Then.norm ?_ | refine AW.skip ?_ | refine AW.condT rfl ?_ | refine AW.condF rfl ?_ | (refine AW.cond rfl (fun hc => ?_) (fun hc => ?_) <;> (try simp only [hsx] at hc) <;> (try first | (exfalso; omega) | contradiction | (exfalso; simp [dec_eq] at hc; done))) | refine AW.ret ?_ | refine Then.ret ?_ | refine AW.drawW mixed (by kernel_rfl) ?_))
  all_goals first
    | (rw [show doneA f c = ([], 2) by unfold doneA; rw [if_neg (by rw [dec_true]; exact hc)]]; exact RQ.fin rfl rfl rfl)
    | (rw [show doneA f c = (insFM f c.node c.parent c.index, 0) by unfold doneA; rw [if_pos (by rw [dec_true]; exact hc)]]; exact RQ.ret rfl (Fz.tup (.cons (fzI_ rfl rfl) (.cons (Fz.im rfl) .nil))))
theorem fzRowD {C : Cx} {s : St} {n : Node} {k : AV} {l : List Int} (hk : FzI C s k (.sl (l.map u16))) : All2 (FzI C s) (nodeRowD n k) { n with data := l }.iv :=
  .cons (.imm _) (.cons (.imm _) (.cons (.imm _) (.cons (.imm _) (.cons (.imm _) (.cons (.imm _) (.cons hk (.cons (.imm _) (.cons (.imm _) (.cons (.imm _) (.cons (.imm _) (.cons (.imm _) (.cons (.imm _) (.cons (.imm _) (.cons (.imm _) (.cons (.imm _) .nil)))))))))))))))
theorem fzD {C : Cx} {s : St} {f : List Node} {p : Int} {id kid m : Nat} {all : List Int} (hp : 0 ≤ p) (hp1 : p < f.length) (hb : nth s.hp id = some ⟨44, 16, rowsD f p (.sub kid all.length 0 m)⟩) (hk : nth s.hp kid = some ⟨55, 1, all.map cU⟩) : Fz C s (.agg [.os id f.length]) (fav (updAt f p { atI f p with data := all.take m })) := by
  have hm : (updAt f p { atI f p with data := all.take m }).map Node.iv = (f.map Node.iv).set p.toNat { atI f p with data := all.take m }.iv := by
    unfold updAt; rw [List.map_set]
  refine Fz.agg (.cons (Fz.osN (b := ⟨44, 16, rowsD f p (.sub kid all.length 0 m)⟩) hb (rowsD_len _ _ _).symm (by simp [rowsD_len, updAt]) (by
    intro r hr
    obtain ⟨n, _, rfl⟩ := List.mem_map.1 hr
    rfl) (all2_flat ?_)) .nil)
  rw [hm]
  have h1 : All2 (All2 (FzI C s)) (f.map rowS) (f.map Node.iv) := all2_map_both (fun n => fzRow (FzI.imm _)) f
  have hs := Fz.sub (C := C) (s := s) (id := kid) (ver := all.length) (off := 0) (n := m) (b := ⟨55, 1, all.map cU⟩) hk (by simp) (all := all.map u16) (by rw [List.map_map]; rfl)
  rw [List.drop_zero, ← List.map_take] at hs
  have h2 : All2 (FzI C s) (nodeRowD (atI f p) (.sub kid all.length 0 m)) { atI f p with data := all.take m }.iv := fzRowD (FzI.of hs)
  exact h1.set h2 p.toNat
def plainDa (c : Change) : Change := { c0 with kind := c.kind, node := c.node, offset := c.offset, count := c.count, data := c.data }
theorem plainData_c (c : Change) : PureC Tryz.prog 119 [c.av] (plainDa c).av := by
  refine PureC.mk tabs Tryz.func119 14 [.cell 2 58] rfl rfl rfl rfl rfl ?_; intro w0 X
  (repeat' (first | ((with_reducible show AL _ _ _ _ _); first | (refine AL.step tabs rfl ?_; try dsimp only [len, List.nil_append, List.cons_append]) | refine AL.nil ?_) | refine AW.seq ?_ | refine AW.region ?_ | refine Then.norm ?_ | refine AW.skip ?_ | refine AW.ret ?_ | refine Then.ret ?_))
  exact RQ.fin rfl rfl rfl
def datF (f : List Node) (node : Int) (d : List Int) : List Node := updAt f (node - 1) { atI f (node - 1) with data := d }
noncomputable def doneW (f : List Node) (node : Int) (d : List Int) : List Node × Int := if dec (rightP (datF f node d)) = true then (datF f node d, 0) else ([], 2)
theorem doneD_c (f : List Node) (c : Change) (all : List Int) (m : Nat) (hf : Fit f) (hck : c.kind = 5) (hcp : plainDa c = c) (hdl : c.data.length ≤ 1000000000) (h1 : 1 ≤ c.node) (h2 : c.node ≤ f.length) (hd : (traitsOf (atI f (c.node - 1)).kind).data = true)
    (ho0 : 0 ≤ c.offset) (hc0 : 0 ≤ c.count) (hoc : c.offset + c.count ≤ (atI f (c.node - 1)).data.length) (hne : (atI f (c.node - 1)).data ≠ []) (hnl : (all.take m).length ≤ 1000000000)
    (hrep : GenC Tryz.prog 155 [⟨55, 1, (atI f (c.node - 1)).data.map cU⟩] [.os 0 (atI f (c.node - 1)).data.length, iav c.offset, iav (c.offset + c.count), .imm (.sl (c.data.map u16))] (.sub 0 all.length 0 m) [⟨55, 1, all.map cU⟩]) :
    PureC Tryz.prog 71 [fav f, c.av] (.tup [fav (doneW f c.node (all.take m)).1, iav (doneW f c.node (all.take m)).2]) := by
  have hsame : PureC Tryz.prog 96 [c.av, (plainDa c).av] (bav true) := by
    rw [hcp]
    exact sameSelf_c c hdl (by rw [← hcp]; exact fit0) (by rw [← hcp]; simp [plainDa, c0]) (by rw [← hcp]; simp [plainDa, c0]) (by omega) (by omega)
  have hins := fdata_c f c all m hf h1 h2 hd ho0 hc0 hoc hrep
  have hfst : ∀ j : Nat, j < 4 → stepKeys[j]? ≠ some c.kind := by
    intro j hj
    rw [hck]
    match j, hj with
    | 0, _ => decide
    | 1, _ => decide
    | 2, _ => decide
    | 3, _ => decide
  have hfi : Fit (datF f c.node (all.take m)) := by
    have := hf.atI (c.node - 1) (by omega) (by omega)
    exact upd_fit hf ⟨hnl, this.attrs, this.kids⟩
  have fzW : ∀ {C : Cx} {s : St}, nth s.hp 0 = some ⟨44, 16, rowsD f (c.node - 1) (.sub 1 all.length 0 m)⟩ → nth s.hp 1 = some ⟨55, 1, all.map cU⟩ → Fz C s (.agg [.os 0 f.length]) (fav (datF f c.node (all.take m))) := by
    intro C s g1 g2
    exact fzD (by omega) (by omega) g1 g2
  refine PureC.mk tabs Tryz.func71 51 [.cell 4 24, .tmp 5] rfl rfl rfl rfl rfl ?_; intro w0 X
  refine AW.reserve 44 16 rfl ?_
  refine AW.reserve 55 1 rfl ?_
  refine AW.reserve 126 4 rfl ?_
  (repeat' (first | ((with_reducible show AL _ _ _ _ _); first | (refine AL.step tabs rfl ?_; try dsimp only [len, List.nil_append, List.cons_append]) | refine AL.callG [0, 1] 6 rfl rfl rfl rfl rfl (caps := []) rfl (copyOfD_c f (c.node - 1) hf (by omega) (by omega) hne) rfl rfl rfl rfl rfl rfl (by simp only [List.all_cons, List.all_nil, Bool.and_true, Bool.and_eq_true]; exact ⟨rowsD_sc _ _ _ _ rfl, (by simp only [List.all_cons, List.all_nil, List.all_map, Function.comp_def, cI, cB, cU, iav, bav, AV.sc1, AV.sc0, Bool.and_true, Bool.and_self, all_tt]; try rfl)⟩) rfl (hpA := [⟨44, 16, rowsD f (c.node - 1) (.os 1 (atI f (c.node - 1)).data.length)⟩, ⟨55, 1, (atI f (c.node - 1)).data.map cU⟩]) (by simp only [List.map_cons, List.map_nil, rowsD_ren, renB_cU]; rfl) (r' := .agg [.os 0 f.length]) rfl rfl ?_ | refine AL.callG [6, 0, 1] 7 rfl rfl rfl rfl rfl (caps := []) rfl hins rfl (by simp only [List.map_cons, List.map_nil, rowsD_ren, renB_cU]; rfl) rfl rfl (by simp only [List.all_cons, List.all_nil, Bool.and_true, Bool.and_eq_true]; exact ⟨rfl, rowsD_sc _ _ _ _ rfl, (by simp only [List.all_cons, List.all_nil, List.all_map, Function.comp_def, cI, cB, cU, iav, bav, AV.sc1, AV.sc0, Bool.and_true, Bool.and_self, all_tt]; try rfl)⟩) rfl (by simp only [List.all_cons, List.all_nil, Bool.and_true, Bool.and_eq_true]; exact ⟨rfl, rowsD_sc _ _ _ _ rfl, (by simp only [List.all_cons, List.all_nil, List.all_map, Function.comp_def, cI, cB, cU, iav, bav, AV.sc1, AV.sc0, Bool.and_true, Bool.and_self, all_tt]; try rfl)⟩) rfl (hpA := [⟨24, 1, [[.os 0 f.length]]⟩, ⟨44, 16, rowsD f (c.node - 1) (.sub 1 all.length 0 m)⟩, ⟨55, 1, all.map cU⟩]) (by simp only [List.map_cons, List.map_nil, rowsD_ren, renB_cU]; rfl) (r' := bav true) rfl rfl ?_ | refine AL.op rfl (OpOK.callsc rfl rfl rfl rfl (.cons (fzW rfl rfl) .nil) (right_c (datF f c.node (all.take m)) hfi) rfl) ?_ | refine AL.nil ?_ | (refine AL.gsplitE rfl rfl rfl (fun hc => ?_) (fun hc => ?_) <;> (fail_if_success (exact absurd hc (by decide))) <;> (try simp only [hsx] at hc) <;> (try first | (exfalso; omega) | contradiction | (exfalso; simp [dec_eq] at hc; done)))) | ((with_reducible show DQ _ _ _ _ _ _); first | refine DQ.stepc (LS.call rfl rfl rfl rfl rfl steps_c rfl) rfl rfl rfl rfl rfl ?_ | refine DQ.stepc (LS.lookOk (kf := k8) (q := c.kind) (xs := stepKeys) (i := 4) (v := [.fn 119, .fn 120, .bool false, .fn 121]) key56 Tryz.underlying128 zero126 rfl rfl rfl rfl rfl rfl (by rw [hck]; rfl) hfst rfl) rfl rfl rfl rfl rfl ?_ | refine DQ.stepc (LS.alloc 2 tabs rfl rfl rfl rfl rfl rfl) rfl rfl rfl rfl rfl ?_ | refine DQ.stepc (LS.store (i := ti126) (v := .agg [.imm (.fn 119), .imm (.fn 120), .imm (.bool false), .imm (.fn 121)]) (ty := 126) (sz := 4) (rows := [ti126.zero]) (r := ti126.zero) tabs rfl rfl rfl rfl rfl rfl rfl rfl rfl rfl (Nat.le_of_ble_eq_true rfl) rfl) rfl rfl rfl rfl rfl ?_ | refine DQ.stepc (LS.call rfl rfl rfl rfl rfl (plainData_c c) rfl) rfl rfl rfl rfl rfl ?_ | refine DQ.stepc (LS.call rfl rfl rfl rfl rfl hsame rfl) rfl rfl rfl rfl rfl ?_ | refine DQ.stepc (LS.val tabs rfl rfl rfl) rfl rfl rfl rfl rfl ?_ | refine DQ.stepc (LS.skip rfl rfl) rfl rfl rfl rfl rfl ?_ | refine DQ.nilM (by kernel_rfl) ?_ | (refine DQ.gsplitE rfl rfl rfl (fun hc => ?_) (fun hc => ?_) <;> (fail_if_success (exact absurd hc (by decide))) <;> (try simp only [hsx] at hc) <;> (try first | (exfalso; omega) | contradiction | (exfalso; simp [dec_eq] at hc; done)))) | refine AW.seq ?_ | refine AW.region ?_ | refine Then.norm ?_ | refine AW.skip ?_ | refine AW.condT rfl ?_ | refine AW.condF rfl ?_ | (refine AW.cond rfl (fun hc => ?_) (fun hc => ?_) <;> (try simp only [hsx] at hc) <;> (try first | (exfalso; omega) | contradiction | (exfalso; simp [dec_eq] at hc; done))) | refine AW.ret ?_ | refine Then.ret ?_ | refine AW.drawW mixed (by kernel_rfl) ?_))
  all_goals first
    | (rw [show doneW f c.node (all.take m) = ([], 2) by unfold doneW; rw [if_neg (by rw [dec_true]; exact hc)]]; exact RQ.fin rfl rfl rfl)
    | (rw [show doneW f c.node (all.take m) = (datF f c.node (all.take m), 0) by unfold doneW; rw [if_pos (by rw [dec_true]; exact hc)]]; exact RQ.ret rfl (Fz.tup (.cons (fzW rfl rfl) (.cons (Fz.im rfl) .nil))))
end Go.Proofs.YtmhejcnaanocpaaGreat.A
namespace Go.Proofs.YtmhejcnaanocpaaGreat.A
set_option linter.unusedVariables false
set_option linter.unusedSimpArgs false
set_option maxRecDepth 100000
set_option maxHeartbeats 4000000
theorem rowS_len (f : List Node) : (f.map rowS).length = f.length := List.length_map _
def outB (f : List Node) (h : Int) : Bool := !inB f h
def ixOut (f : List Node) : List Int → Int → Int
  | [], _ => -1
  | h :: r, i => if outB f h = true then i else ixOut f r (i + 1)
theorem ixOut_iff (f : List Node) : ∀ (l : List Int) (i : Int), 0 ≤ i → (0 ≤ ixOut f l i ↔ (l.all fun h => inB f h) = false)
  | [], i, h => by simp [ixOut]
  | y :: r, i, h => by
    rw [ixOut, List.all_cons]
    by_cases e : inB f y = true
    · rw [if_neg (by simp [outB, e]), ixOut_iff f r (i + 1) (by omega), e, Bool.true_and]
    · rw [if_pos (by simpa [outB] using e)]
      simp [e, h]
theorem thereF_c (f : List Node) (h : Int) (hl : f.length ≤ 1000000000) : GenC Tryz.prog 187 [⟨24, 1, [[.os 1 f.length]]⟩, ⟨44, 16, f.map rowS⟩, ⟨130, 1, [[.ptr 0 1 0 0]]⟩] [iav h, .ptr 2 1 0 0] (bav (outB f h)) [⟨24, 1, [[.os 1 f.length]]⟩, ⟨44, 16, f.map rowS⟩, ⟨130, 1, [[.ptr 0 1 0 0]]⟩] := by
  have hR := rowS_len f
  refine GenC.mk tabs Tryz.func187 15 [.tmp 3] rfl rfl rfl rfl rfl ?_; intro w0 X γ κ
  (repeat' (first | ((with_reducible show AL _ _ _ _ _); first | (refine AL.step tabs rfl ?_; try dsimp only [len, List.nil_append, List.cons_append]) | refine AL.ope rfl (OpOK.len_os (b := ⟨44, 16, f.map rowS⟩) tabs rfl rfl rfl rfl rfl rfl hR.symm) rfl ?_ | refine AL.nil ?_ | (refine AL.gsplitE rfl rfl rfl (fun hc => ?_) (fun hc => ?_) <;> (fail_if_success (exact absurd hc (by decide))) <;> (try simp only [hsx] at hc) <;> (try first | (exfalso; omega) | contradiction | (exfalso; simp [dec_eq] at hc; done)))) | refine AW.seq ?_ | refine AW.region ?_ | refine Then.norm ?_ | refine AW.skip ?_ | refine AW.ret ?_ | refine Then.ret ?_))
  · exact RG.ret 3 rfl (by rw [show outB f h = true by simp [outB, inB]; omega]; rfl) rfl rfl (by simp only [List.all_cons, List.all_nil, Bool.and_true, Bool.and_eq_true]; exact ⟨rfl, rowS_sc _ _, rfl⟩) (by simp [cxG])
  · exact RG.ret 3 rfl (by rw [show outB f h = dec ((f.length : Int) < h) by (rw [Bool.eq_iff_iff, dec_true]; simp only [outB, inB, Bool.not_eq_true', decide_eq_false_iff_not]; omega)]; rfl) rfl rfl (by simp only [List.all_cons, List.all_nil, Bool.and_true, Bool.and_eq_true]; exact ⟨rfl, rowS_sc _ _, rfl⟩) (by simp [cxG])
theorem thereI_c (f : List Node) (l : List Int) (hl : f.length ≤ 1000000000) (hll : l.length ≤ 1000000000) : GenC Tryz.prog 194 [⟨24, 1, [[.os 1 f.length]]⟩, ⟨44, 16, f.map rowS⟩, ⟨130, 1, [[.ptr 0 1 0 0]]⟩] [.imm (.sl (l.map i64)), .fn 187 [.ptr 2 1 0 0]] (iav (ixOut f l 0)) [⟨24, 1, [[.os 1 f.length]]⟩, ⟨44, 16, f.map rowS⟩, ⟨130, 1, [[.ptr 0 1 0 0]]⟩] := by
  have hcl : (l.map cI).length = l.length := List.length_map _
  have hil : (l.map i64).length = l.length := List.length_map _
  refine GenC.mk tabs Tryz.func194 19 [.tmp 4] rfl rfl rfl rfl rfl ?_; intro w0 X γ κ
  (repeat' (first | ((with_reducible show AL _ _ _ _ _); first | (refine AL.step tabs rfl ?_; try dsimp only [len, List.nil_append, List.cons_append]) | refine AL.nil ?_ | (refine AL.op rfl (OpOK.ari64 rfl rfl rfl rfl rfl (by omega) (by omega)) ?_) | (refine AL.op rfl (OpOK.index_map tabs rfl rfl rfl rfl rfl rfl rfl (fun _ => rfl) (by decide) (by omega) (by omega)) ?_)) | fail | refine AW.seq ?_ | refine AW.region ?_ | refine Then.norm ?_ | refine AW.skip ?_ | refine AW.block ?_ | refine InB.norm ?_ | refine AW.condT rfl ?_ | refine AW.condF rfl ?_ | (refine AW.cond rfl (fun hc => ?_) (fun hc => ?_) <;> (try simp only [hsx] at hc) <;> (try first | (exfalso; omega) | contradiction | (exfalso; simp [dec_eq] at hc; done))) | refine AW.ret ?_ | refine AW.exit ?_ | refine Then.ret ?_ | refine Then.exit ?_ | refine InB.ret ?_ | refine InB.here ?_ | refine InB.off rfl ?_ | refine Rnd.ret ?_ | refine Rnd.exit ?_))
  refine AW.loop (α := Int) (fun i => ⟨[(0, .imm (.sl (l.map i64))), (1, .fn 187 [.ptr 2 1 0 0]), (7, iav l.length), (8, iav i)], [⟨24, 1, [[.os 1 f.length]]⟩, ⟨44, 16, f.map rowS⟩, ⟨130, 1, [[.ptr 0 1 0 0]]⟩]⟩) (fun i => 0 ≤ i ∧ i ≤ l.length ∧ ixOut f (l.drop i.toNat) i = ixOut f l 0) (fun i => (l.length - i).toNat) 0 (Le.cut 3 rfl (by repeat' (first | exact trivial | refine ⟨rfl, ?_⟩ | refine ⟨by rw [hil]; rfl, ?_⟩)) rfl (by simp only [List.all_cons, List.all_nil, Bool.and_true, Bool.and_eq_true]; exact ⟨rfl, rowS_sc _ _, rfl⟩) (by simp [cxG])) ⟨by omega, by omega, rfl⟩ ?_
  intro i ⟨h0, h1, h2⟩
  (repeat' (first | ((with_reducible show AL _ _ _ _ _); first | (refine AL.step tabs rfl ?_; try dsimp only [len, List.nil_append, List.cons_append]) | refine AL.callG [0, 1, 2] 3 rfl rfl rfl rfl (caps := [.ptr 2 1 0 0]) rfl rfl (thereF_c f (atI l i) hl) rfl (by simp only [List.map_cons, List.map_nil, renB_id (k := 0) (rho0 rfl) (rowS_sc f 0), renB_cI]; rfl) rfl rfl (by simp only [List.all_cons, List.all_nil, Bool.and_true, Bool.and_eq_true]; exact ⟨rfl, rowS_sc _ _, rfl⟩) rfl (by simp only [List.all_cons, List.all_nil, Bool.and_true, Bool.and_eq_true]; exact ⟨rfl, rowS_sc _ _, rfl⟩) rfl (hpA := [⟨24, 1, [[.os 1 f.length]]⟩, ⟨44, 16, f.map rowS⟩, ⟨130, 1, [[.ptr 0 1 0 0]]⟩]) (by simp only [List.map_cons, List.map_nil, renB_id (k := 0) (rho0 rfl) (rowS_sc f 0), renB_cI]; rfl) (r' := bav (outB f (atI l i))) rfl rfl ?_ | refine AL.nil ?_ | (refine AL.op rfl (OpOK.ari64 rfl rfl rfl rfl rfl (by omega) (by omega)) ?_) | (refine AL.op rfl (OpOK.index_map tabs rfl rfl rfl rfl rfl rfl rfl (fun _ => rfl) (by decide) (by omega) (by omega)) ?_)) | refine AW.seq ?_ | refine AW.region ?_ | refine Then.norm ?_ | refine AW.skip ?_ | refine AW.block ?_ | refine InB.norm ?_ | refine AW.condT rfl ?_ | refine AW.condF rfl ?_ | (refine AW.cond rfl (fun hc => ?_) (fun hc => ?_) <;> (try simp only [hsx] at hc) <;> (try first | (exfalso; omega) | contradiction | (exfalso; simp [dec_eq] at hc; done))) | refine AW.ret ?_ | refine AW.exit ?_ | refine Then.ret ?_ | refine Then.exit ?_ | refine InB.ret ?_ | refine InB.here ?_ | refine InB.off rfl ?_ | refine Rnd.ret ?_ | refine Rnd.exit ?_))
  · rw [← h2, drop_next h0 (by assumption), ixOut, if_pos hc]
    exact RG.ret 3 rfl rfl rfl rfl (by simp only [List.all_cons, List.all_nil, Bool.and_true, Bool.and_eq_true]; exact ⟨rfl, rowS_sc _ _, rfl⟩) (by simp [cxG])
  · refine Rnd.norm (i + 1) (Le.cut 3 rfl (by repeat' (first | exact trivial | refine ⟨rfl, ?_⟩ | refine ⟨by rw [hil]; rfl, ?_⟩)) rfl (by simp only [List.all_cons, List.all_nil, Bool.and_true, Bool.and_eq_true]; exact ⟨rfl, rowS_sc _ _, rfl⟩) (by simp [cxG])) ⟨by omega, by omega, ?_⟩ (by omega)
    rw [← h2, drop_next h0 (by assumption), ixOut, if_neg (by rw [hc]; simp)]
  · rw [← h2, drop_end (by assumption)]
    exact RG.ret 3 rfl rfl rfl rfl (by simp only [List.all_cons, List.all_nil, Bool.and_true, Bool.and_eq_true]; exact ⟨rfl, rowS_sc _ _, rfl⟩) (by simp [cxG])
theorem thereO_c (f : List Node) (l : List Int) (hl : f.length ≤ 1000000000) (hll : l.length ≤ 1000000000) : GenC Tryz.prog 194 [⟨24, 1, [[.os 1 f.length]]⟩, ⟨44, 16, f.map rowS⟩, ⟨130, 1, [[.ptr 0 1 0 0]]⟩, ⟨3, 1, l.map cI⟩] [.os 3 l.length, .fn 187 [.ptr 2 1 0 0]] (iav (ixOut f l 0)) [⟨24, 1, [[.os 1 f.length]]⟩, ⟨44, 16, f.map rowS⟩, ⟨130, 1, [[.ptr 0 1 0 0]]⟩, ⟨3, 1, l.map cI⟩] := by
  have hcl : (l.map cI).length = l.length := List.length_map _
  have hil : (l.map i64).length = l.length := List.length_map _
  refine GenC.mk tabs Tryz.func194 19 [.tmp 4] rfl rfl rfl rfl rfl ?_; intro w0 X γ κ
  (repeat' (first | ((with_reducible show AL _ _ _ _ _); first | (refine AL.step tabs rfl ?_; try dsimp only [len, List.nil_append, List.cons_append]) | refine AL.ope rfl (OpOK.len_os (b := ⟨3, 1, l.map cI⟩) tabs rfl rfl rfl rfl rfl rfl hcl.symm) rfl ?_ | refine AL.nil ?_ | (refine AL.op rfl (OpOK.ari64 rfl rfl rfl rfl rfl (by omega) (by omega)) ?_) | (refine AL.op rfl (OpOK.index_map tabs rfl rfl rfl rfl rfl rfl rfl (fun _ => rfl) (by decide) (by omega) (by omega)) ?_)) | refine AW.seq ?_ | refine AW.region ?_ | refine Then.norm ?_ | refine AW.skip ?_ | refine AW.block ?_ | refine InB.norm ?_ | refine AW.condT rfl ?_ | refine AW.condF rfl ?_ | (refine AW.cond rfl (fun hc => ?_) (fun hc => ?_) <;> (try simp only [hsx] at hc) <;> (try first | (exfalso; omega) | contradiction | (exfalso; simp [dec_eq] at hc; done))) | refine AW.ret ?_ | refine AW.exit ?_ | refine Then.ret ?_ | refine Then.exit ?_ | refine InB.ret ?_ | refine InB.here ?_ | refine InB.off rfl ?_ | refine Rnd.ret ?_ | refine Rnd.exit ?_))
  refine AW.loop (α := Int) (fun i => ⟨[(0, .os 3 l.length), (1, .fn 187 [.ptr 2 1 0 0]), (7, iav l.length), (8, iav i)], [⟨24, 1, [[.os 1 f.length]]⟩, ⟨44, 16, f.map rowS⟩, ⟨130, 1, [[.ptr 0 1 0 0]]⟩, ⟨3, 1, l.map cI⟩]⟩) (fun i => 0 ≤ i ∧ i ≤ l.length ∧ ixOut f (l.drop i.toNat) i = ixOut f l 0) (fun i => (l.length - i).toNat) 0 (Le.cut 4 rfl (by repeat' (first | exact trivial | refine ⟨rfl, ?_⟩ | refine ⟨by rw [hil]; rfl, ?_⟩)) rfl (by simp only [List.all_cons, List.all_nil, Bool.and_true, Bool.and_eq_true]; exact ⟨rfl, rowS_sc _ _, rfl, cI_sc _ _⟩) (by simp [cxG])) ⟨by omega, by omega, rfl⟩ ?_
  intro i ⟨h0, h1, h2⟩
  (repeat' (first | ((with_reducible show AL _ _ _ _ _); first | (refine AL.step tabs rfl ?_; try dsimp only [len, List.nil_append, List.cons_append]) | refine AL.callG [0, 1, 2] 4 rfl rfl rfl rfl (caps := [.ptr 2 1 0 0]) rfl rfl (thereF_c f (atI l i) hl) rfl (by simp only [List.map_cons, List.map_nil, renB_id (k := 0) (rho0 rfl) (rowS_sc f 0), renB_cI]; rfl) rfl rfl (by simp only [List.all_cons, List.all_nil, Bool.and_true, Bool.and_eq_true]; exact ⟨rfl, rowS_sc _ _, rfl⟩) rfl (by simp only [List.all_cons, List.all_nil, Bool.and_true, Bool.and_eq_true]; exact ⟨rfl, rowS_sc _ _, rfl⟩) rfl (hpA := [⟨24, 1, [[.os 1 f.length]]⟩, ⟨44, 16, f.map rowS⟩, ⟨130, 1, [[.ptr 0 1 0 0]]⟩]) (by simp only [List.map_cons, List.map_nil, renB_id (k := 0) (rho0 rfl) (rowS_sc f 0), renB_cI]; rfl) (r' := bav (outB f (atI l i))) rfl rfl ?_ | refine AL.ope rfl (OpOK.index_own (b := ⟨3, 1, l.map cI⟩) tabs rfl rfl rfl rfl rfl rfl rfl rfl hcl.symm rfl (by omega) (by omega)) rfl ?_ | refine AL.ope rfl (OpOK.load_m (i := ti3) (g := cI) (xs := l) (v := iav (atI l i)) tabs rfl rfl rfl rfl rfl rfl (by omega) (by omega) rfl) rfl ?_ | refine AL.nil ?_ | (refine AL.op rfl (OpOK.ari64 rfl rfl rfl rfl rfl (by omega) (by omega)) ?_) | (refine AL.op rfl (OpOK.index_map tabs rfl rfl rfl rfl rfl rfl rfl (fun _ => rfl) (by decide) (by omega) (by omega)) ?_)) | refine AW.seq ?_ | refine AW.region ?_ | refine Then.norm ?_ | refine AW.skip ?_ | refine AW.block ?_ | refine InB.norm ?_ | refine AW.condT rfl ?_ | refine AW.condF rfl ?_ | (refine AW.cond rfl (fun hc => ?_) (fun hc => ?_) <;> (try simp only [hsx] at hc) <;> (try first | (exfalso; omega) | contradiction | (exfalso; simp [dec_eq] at hc; done))) | refine AW.ret ?_ | refine AW.exit ?_ | refine Then.ret ?_ | refine Then.exit ?_ | refine InB.ret ?_ | refine InB.here ?_ | refine InB.off rfl ?_ | refine Rnd.ret ?_ | refine Rnd.exit ?_))
  · rw [← h2, drop_next h0 (by assumption), ixOut, if_pos hc]
    exact RG.ret 4 rfl rfl rfl rfl (by simp only [List.all_cons, List.all_nil, Bool.and_true, Bool.and_eq_true]; exact ⟨rfl, rowS_sc _ _, rfl, cI_sc _ _⟩) (by simp [cxG])
  · refine Rnd.norm (i + 1) (Le.cut 4 rfl (by repeat' (first | exact trivial | refine ⟨rfl, ?_⟩ | refine ⟨by rw [hil]; rfl, ?_⟩)) rfl (by simp only [List.all_cons, List.all_nil, Bool.and_true, Bool.and_eq_true]; exact ⟨rfl, rowS_sc _ _, rfl, cI_sc _ _⟩) (by simp [cxG])) ⟨by omega, by omega, ?_⟩ (by omega)
    rw [← h2, drop_next h0 (by assumption), ixOut, if_neg (by rw [hc]; simp)]
  · rw [← h2, drop_end (by assumption)]
    exact RG.ret 4 rfl rfl rfl rfl (by simp only [List.all_cons, List.all_nil, Bool.and_true, Bool.and_eq_true]; exact ⟨rfl, rowS_sc _ _, rfl, cI_sc _ _⟩) (by simp [cxG])
theorem containsI_c (f : List Node) (l : List Int) (hl : f.length ≤ 1000000000) (hll : l.length ≤ 1000000000) : GenC Tryz.prog 186 [⟨24, 1, [[.os 1 f.length]]⟩, ⟨44, 16, f.map rowS⟩, ⟨130, 1, [[.ptr 0 1 0 0]]⟩] [.imm (.sl (l.map i64)), .fn 187 [.ptr 2 1 0 0]] (bav (dec (0 ≤ ixOut f l 0))) [⟨24, 1, [[.os 1 f.length]]⟩, ⟨44, 16, f.map rowS⟩, ⟨130, 1, [[.ptr 0 1 0 0]]⟩] := by
  refine GenC.mk tabs Tryz.func186 9 [.tmp 4] rfl rfl rfl rfl rfl ?_; intro w0 X γ κ
  (repeat' (first | ((with_reducible show AL _ _ _ _ _); first | (refine AL.step tabs rfl ?_; try dsimp only [len, List.nil_append, List.cons_append]) | refine AL.callG [0, 1, 2] 3 rfl rfl rfl rfl rfl (caps := []) rfl (thereI_c f l hl hll) rfl (by simp only [List.map_cons, List.map_nil, renB_id (k := 0) (rho0 rfl) (rowS_sc f 0), renB_cI]; rfl) rfl rfl (by simp only [List.all_cons, List.all_nil, Bool.and_true, Bool.and_eq_true]; exact ⟨rfl, rowS_sc _ _, rfl⟩) rfl (by simp only [List.all_cons, List.all_nil, Bool.and_true, Bool.and_eq_true]; exact ⟨rfl, rowS_sc _ _, rfl⟩) rfl (hpA := [⟨24, 1, [[.os 1 f.length]]⟩, ⟨44, 16, f.map rowS⟩, ⟨130, 1, [[.ptr 0 1 0 0]]⟩]) (by simp only [List.map_cons, List.map_nil, renB_id (k := 0) (rho0 rfl) (rowS_sc f 0), renB_cI]; rfl) (r' := iav (ixOut f l 0)) rfl rfl ?_ | refine AL.nil ?_) | refine AW.seq ?_ | refine AW.region ?_ | refine Then.norm ?_ | refine AW.skip ?_ | refine AW.ret ?_ | refine Then.ret ?_))
  exact RG.ret 3 rfl rfl rfl rfl (by simp only [List.all_cons, List.all_nil, Bool.and_true, Bool.and_eq_true]; exact ⟨rfl, rowS_sc _ _, rfl⟩) (by simp [cxG])
theorem containsO_c (f : List Node) (l : List Int) (hl : f.length ≤ 1000000000) (hll : l.length ≤ 1000000000) : GenC Tryz.prog 186 [⟨24, 1, [[.os 1 f.length]]⟩, ⟨44, 16, f.map rowS⟩, ⟨130, 1, [[.ptr 0 1 0 0]]⟩, ⟨3, 1, l.map cI⟩] [.os 3 l.length, .fn 187 [.ptr 2 1 0 0]] (bav (dec (0 ≤ ixOut f l 0))) [⟨24, 1, [[.os 1 f.length]]⟩, ⟨44, 16, f.map rowS⟩, ⟨130, 1, [[.ptr 0 1 0 0]]⟩, ⟨3, 1, l.map cI⟩] := by
  refine GenC.mk tabs Tryz.func186 9 [.tmp 4] rfl rfl rfl rfl rfl ?_; intro w0 X γ κ
  (repeat' (first | ((with_reducible show AL _ _ _ _ _); first | (refine AL.step tabs rfl ?_; try dsimp only [len, List.nil_append, List.cons_append]) | refine AL.callG [0, 1, 2, 3] 4 rfl rfl rfl rfl rfl (caps := []) rfl (thereO_c f l hl hll) rfl (by simp only [List.map_cons, List.map_nil, renB_id (k := 0) (rho0 rfl) (rowS_sc f 0), renB_cI]; rfl) rfl rfl (by simp only [List.all_cons, List.all_nil, Bool.and_true, Bool.and_eq_true]; exact ⟨rfl, rowS_sc _ _, rfl, cI_sc _ _⟩) rfl (by simp only [List.all_cons, List.all_nil, Bool.and_true, Bool.and_eq_true]; exact ⟨rfl, rowS_sc _ _, rfl, cI_sc _ _⟩) rfl (hpA := [⟨24, 1, [[.os 1 f.length]]⟩, ⟨44, 16, f.map rowS⟩, ⟨130, 1, [[.ptr 0 1 0 0]]⟩, ⟨3, 1, l.map cI⟩]) (by simp only [List.map_cons, List.map_nil, renB_id (k := 0) (rho0 rfl) (rowS_sc f 0), renB_cI]; rfl) (r' := iav (ixOut f l 0)) rfl rfl ?_ | refine AL.nil ?_) | refine AW.seq ?_ | refine AW.region ?_ | refine Then.norm ?_ | refine AW.skip ?_ | refine AW.ret ?_ | refine Then.ret ?_))
  exact RG.ret 4 rfl rfl rfl rfl (by simp only [List.all_cons, List.all_nil, Bool.and_true, Bool.and_eq_true]; exact ⟨rfl, rowS_sc _ _, rfl, cI_sc _ _⟩) (by simp [cxG])
theorem notix (f : List Node) (l : List Int) : (!dec (0 ≤ ixOut f l 0)) = l.all fun h => inB f h := by
  rw [show (0 ≤ ixOut f l 0) = ((l.all fun h => inB f h) = false) from propext (ixOut_iff f l 0 (Int.le_refl _))]
  cases h : l.all fun h => inB f h
  · rw [dec_pos rfl]; rfl
  · rw [dec_neg (by simp)]; rfl
theorem thereI (f : List Node) (l : List Int) (hl : f.length ≤ 1000000000) (hll : l.length ≤ 1000000000) : GenC Tryz.prog 158 [⟨24, 1, [[.os 1 f.length]]⟩, ⟨44, 16, f.map rowS⟩] [.ptr 0 1 0 0, .imm (.sl (l.map i64))] (bav (l.all fun h => inB f h)) [⟨24, 1, [[.os 1 f.length]]⟩, ⟨44, 16, f.map rowS⟩] := by
  rw [← notix]
  refine GenC.mk tabs Tryz.func158 9 [.tmp 4] rfl rfl rfl rfl rfl ?_; intro w0 X γ κ
  (repeat' (first | ((with_reducible show AL _ _ _ _ _); first | (refine AL.step tabs rfl ?_; try dsimp only [len, List.nil_append, List.cons_append]) | refine AL.callG [0, 1, 2] 3 rfl rfl rfl rfl rfl (caps := []) rfl (containsI_c f l hl hll) rfl (by simp only [List.map_cons, List.map_nil, renB_id (k := 0) (rho0 rfl) (rowS_sc f 0), renB_cI]; rfl) rfl rfl (by simp only [List.all_cons, List.all_nil, Bool.and_true, Bool.and_eq_true]; exact ⟨rfl, rowS_sc _ _, rfl⟩) rfl (by simp only [List.all_cons, List.all_nil, Bool.and_true, Bool.and_eq_true]; exact ⟨rfl, rowS_sc _ _, rfl⟩) rfl (hpA := [⟨24, 1, [[.os 1 f.length]]⟩, ⟨44, 16, f.map rowS⟩, ⟨130, 1, [[.ptr 0 1 0 0]]⟩]) (by simp only [List.map_cons, List.map_nil, renB_id (k := 0) (rho0 rfl) (rowS_sc f 0), renB_cI]; rfl) (r' := bav (dec (0 ≤ ixOut f l 0))) rfl rfl ?_ | refine AL.nil ?_) | refine AW.seq ?_ | refine AW.region ?_ | refine Then.norm ?_ | refine AW.skip ?_ | refine AW.ret ?_ | refine Then.ret ?_))
  exact RG.ret 2 rfl rfl rfl rfl (by simp only [List.all_cons, List.all_nil, Bool.and_true, Bool.and_eq_true]; exact ⟨rfl, rowS_sc _ _⟩) (by simp [cxG])
theorem thereO (f : List Node) (l : List Int) (hl : f.length ≤ 1000000000) (hll : l.length ≤ 1000000000) : GenC Tryz.prog 158 [⟨24, 1, [[.os 1 f.length]]⟩, ⟨44, 16, f.map rowS⟩, ⟨3, 1, l.map cI⟩] [.ptr 0 1 0 0, .os 2 l.length] (bav (l.all fun h => inB f h)) [⟨24, 1, [[.os 1 f.length]]⟩, ⟨44, 16, f.map rowS⟩, ⟨3, 1, l.map cI⟩] := by
  rw [← notix]
  refine GenC.mk tabs Tryz.func158 9 [.tmp 4] rfl rfl rfl rfl rfl ?_; intro w0 X γ κ
  (repeat' (first | ((with_reducible show AL _ _ _ _ _); first | (refine AL.step tabs rfl ?_; try dsimp only [len, List.nil_append, List.cons_append]) | refine AL.callG [0, 1, 3, 2] 4 rfl rfl rfl rfl rfl (caps := []) rfl (containsO_c f l hl hll) rfl (by simp only [List.map_cons, List.map_nil, renB_id (k := 0) (rho0 rfl) (rowS_sc f 0), renB_cI]; rfl) rfl rfl (by simp only [List.all_cons, List.all_nil, Bool.and_true, Bool.and_eq_true]; exact ⟨rfl, rowS_sc _ _, rfl, cI_sc _ _⟩) rfl (by simp only [List.all_cons, List.all_nil, Bool.and_true, Bool.and_eq_true]; exact ⟨rfl, rowS_sc _ _, rfl, cI_sc _ _⟩) rfl (hpA := [⟨24, 1, [[.os 1 f.length]]⟩, ⟨44, 16, f.map rowS⟩, ⟨130, 1, [[.ptr 0 1 0 0]]⟩, ⟨3, 1, l.map cI⟩]) (by simp only [List.map_cons, List.map_nil, renB_id (k := 0) (rho0 rfl) (rowS_sc f 0), renB_cI]; rfl) (r' := bav (dec (0 ≤ ixOut f l 0))) rfl rfl ?_ | refine AL.nil ?_) | refine AW.seq ?_ | refine AW.region ?_ | refine Then.norm ?_ | refine AW.skip ?_ | refine AW.ret ?_ | refine Then.ret ?_))
  exact RG.ret 3 rfl rfl rfl rfl (by simp only [List.all_cons, List.all_nil, Bool.and_true, Bool.and_eq_true]; exact ⟨rfl, rowS_sc _ _, cI_sc _ _⟩) (by simp [cxG])
theorem pair_c (f : List Node) (c : Change) (hl : f.length ≤ 1000000000) : GenC Tryz.prog 128 [⟨24, 1, [[.os 1 f.length]]⟩, ⟨44, 16, f.map rowS⟩] [.ptr 0 1 0 0, c.av] (bav ([c.node, c.other].all fun h => inB f h)) [⟨24, 1, [[.os 1 f.length]]⟩, ⟨44, 16, f.map rowS⟩] := by
  refine GenC.mk tabs Tryz.func128 12 [.tmp 4] rfl rfl rfl rfl rfl ?_; intro w0 X γ κ
  (repeat' (first | ((with_reducible show AL _ _ _ _ _); first | (refine AL.step tabs rfl ?_; try dsimp only [len, List.nil_append, List.cons_append]) | refine AL.callG [0, 1, 3] 4 rfl rfl rfl rfl rfl (caps := []) rfl (thereO f [c.node, c.other] hl (by simp)) rfl (by simp only [List.map_cons, List.map_nil, renB_id (k := 0) (rho0 rfl) (rowS_sc f 0), renB_cI]; rfl) rfl rfl (by simp only [List.all_cons, List.all_nil, Bool.and_true, Bool.and_eq_true]; exact ⟨rfl, rowS_sc _ _, cI_sc _ _⟩) rfl (by simp only [List.all_cons, List.all_nil, Bool.and_true, Bool.and_eq_true]; exact ⟨rfl, rowS_sc _ _, cI_sc _ _⟩) rfl (hpA := [⟨24, 1, [[.os 1 f.length]]⟩, ⟨44, 16, f.map rowS⟩, ⟨3, 1, [c.node, c.other].map cI⟩]) (by simp only [List.map_cons, List.map_nil, renB_id (k := 0) (rho0 rfl) (rowS_sc f 0), renB_cI]; rfl) (r' := bav ([c.node, c.other].all fun h => inB f h)) rfl rfl ?_ | refine AL.nil ?_) | refine AW.seq ?_ | refine AW.region ?_ | refine Then.norm ?_ | refine AW.skip ?_ | refine AW.ret ?_ | refine Then.ret ?_))
  exact RG.ret 2 rfl rfl rfl rfl (by simp only [List.all_cons, List.all_nil, Bool.and_true, Bool.and_eq_true]; exact ⟨rfl, rowS_sc _ _⟩) (by simp [cxG])
def treeP (f : List Node) (c : Change) : Prop := inB f c.parent = true ∧ (c.added.all fun h => inB f h) = true ∧ (c.removed.all fun h => inB f h) = true ∧ (c.prev = 0 ∨ inB f c.prev = true) ∧ (c.next = 0 ∨ inB f c.next = true)
end Go.Proofs.YtmhejcnaanocpaaGreat.A
