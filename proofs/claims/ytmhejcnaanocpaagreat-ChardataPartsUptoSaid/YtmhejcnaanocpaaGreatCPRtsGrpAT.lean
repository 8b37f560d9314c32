/- Contracts: slices.Insert in the middle, forest.insert there. -/
import Derived.Test.YtmhejcnaanocpaaGreatCPRtsGrpAP
import Derived.Test.YtmhejcnaanocpaaGreatCPRtsGrpAS
namespace Go.Proofs.YtmhejcnaanocpaaGreat.A
open Go.RowKit
set_option linter.unusedVariables false
set_option linter.unusedSimpArgs false
set_option maxRecDepth 100000
set_option maxHeartbeats 4000000
def insAt (l : List Int) (i x : Int) : List Int := l.take i.toNat ++ x :: l.drop i.toNat
theorem insAt_len (l : List Int) (i x : Int) (h0 : 0 ≤ i) (h1 : i ≤ l.length) : (insAt l i x).length = l.length + 1 := by
  unfold insAt
  simp only [List.length_append, List.length_take, List.length_cons, List.length_drop]; omega
theorem insAt_end (l : List Int) (x : Int) : insAt l l.length x = l ++ [x] := by unfold insAt; simp
theorem iav_val {M : Mm} {n : Int} {v : Value} (h : RepA M (iav n) v) : v = .int .i64 n := by
  cases h with | imm _ _ h => exact h.int_inv
theorem insM_c (l : List Int) (i x : Int) (h0 : 0 ≤ i) (h1 : i < l.length) (hl : l.length ≤ 1000000000) : GenC Tryz.prog 150 [⟨3, 1, l.map cI⟩, ⟨3, 1, [cI x]⟩] [.os 0 l.length, iav i, .os 1 1] (.os 0 (insAt l i x).length) [⟨3, 1, (insAt l i x).map cI⟩, ⟨3, 1, [cI x]⟩] := by
  refine ⟨(insK_c l x hl).1, fun W X γ κ xs hC hargs => ?_⟩
  obtain ⟨k, rfl⟩ : ∃ k : Nat, i = k := ⟨i.toNat, by omega⟩
  have hk : k < l.length := by omega
  have en : insAt l k x = l.take k ++ [x] ++ l.drop k := by unfold insAt; simp
  cases hargs with
  | cons a0 t =>
    cases t with
    | cons a1 t =>
      cases t with
      | cons a2 t =>
        cases t
        have e0 := a0.os_val (b := ⟨3, 1, l.map cI⟩) rfl (by simp)
        have e2 := a2.os_val (b := ⟨3, 1, [cI x]⟩) rfl rfl
        have e1 := iav_val a1
        subst e0 e1 e2
        obtain ⟨g1, sp1, hg1, hmem1, hcap1⟩ := ownI hC (id := 1) (l := [x]) rfl (by simp)
        obtain ⟨g0, sp0, hg0, hmem0, hcap0⟩ := ownI hC (id := 0) (l := l) rfl (fun e => by rw [e] at hk; simp at hk)
        have h := coreI hC (id := 0) (l := l) (v := [x]) (i := k) rfl hk (by simp) hl (by simp) (vb := g1) (voff := 0) (vc := κ 1) (fun e => by
            have := hC.inj 0 1 g1 (by simp) (by simp) e hg1
            cases this) (fun j y hy => by
            rw [blk_cell hmem1]
            simp only [List.getElem?_toArray, Nat.zero_add]
            rw [List.getElem?_append_left (List.getElem?_eq_some_iff.1 hy).1]; exact hy)
        have hA : (St.mm ⟨[], [⟨3, 1, l.map cI⟩, ⟨3, 1, [cI x]⟩]⟩ (cxG Tryz.prog X [⟨3, 1, l.map cI⟩, ⟨3, 1, [cI x]⟩] γ κ W 0) γ κ W).γ 1 = some g1 := hg1
        rw [hA]
        refine h.mono ?_
        rintro e W' ⟨y, γ', κ', rfl, hC', hr⟩
        refine ⟨y, γ', κ', rfl, ?_, ?_⟩
        · rw [en]; exact hC'
        · rw [en]
          rw [show (l.take k ++ [x] ++ l.drop k).length = l.length + [x].length by simp only [List.length_append, List.length_take, List.length_drop, List.length_singleton]; omega]
          exact hr
def insFM (f : List Node) (node parent idx : Int) : List Node :=
  updAt (updAt f (parent - 1) { atI f (parent - 1) with kids := insAt (atI f (parent - 1)).kids idx node }) (node - 1)
    { atI (updAt f (parent - 1) { atI f (parent - 1) with kids := insAt (atI f (parent - 1)).kids idx node }) (node - 1) with parent := parent }
theorem insFM_len (f : List Node) (node parent idx : Int) : (insFM f node parent idx).length = f.length := by unfold insFM updAt; simp
theorem insFM_end (f : List Node) (node parent : Int) : insFM f node parent (atI f (parent - 1)).kids.length = insF f node parent := by unfold insFM insF; rw [insAt_end]
theorem insertM_c (f : List Node) (c : Change) (hf : Fit f) (h1 : 1 ≤ c.node) (h2 : c.node ≤ f.length) (h3 : 1 ≤ c.parent) (h4 : c.parent ≤ f.length) (hi0 : 0 ≤ c.index) (hi1 : c.index < (atI f (c.parent - 1)).kids.length) (hp0 : (atI f (c.node - 1)).parent = 0) : GenC Tryz.prog 113 [⟨24, 1, [[.os 1 f.length]]⟩, ⟨44, 16, rowsK f (c.parent - 1) (.os 2 (atI f (c.parent - 1)).kids.length)⟩, ⟨3, 1, (atI f (c.parent - 1)).kids.map cI⟩] [.ptr 0 1 0 0, c.av] (bav true) [⟨24, 1, [[.os 1 f.length]]⟩, ⟨44, 16, rowsK (insFM f c.node c.parent c.index) (c.parent - 1) (.os 2 (insAt (atI f (c.parent - 1)).kids c.index c.node).length)⟩, ⟨3, 1, (insAt (atI f (c.parent - 1)).kids c.index c.node).map cI⟩] := by
  have hl := hf.len
  have hR := rowsK_len f (c.parent - 1) (.os 2 (atI f (c.parent - 1)).kids.length)
  have hsc : (rowsK f (c.parent - 1) (.os 2 (atI f (c.parent - 1)).kids.length)).all (fun r => r.all (AV.sc1 3)) = true := rowsK_sc f _ _ 3 rfl
  have eN : ∀ n, renB (rho [0, 1, 2] n) ⟨44, 16, rowsK f (c.parent - 1) (.os 2 (atI f (c.parent - 1)).kids.length)⟩ = ⟨44, 16, rowsK f (c.parent - 1) (.os 2 (atI f (c.parent - 1)).kids.length)⟩ := fun n => renB_id (rho3 n) hsc
  have eK : ∀ n, renB (rho [0, 1, 2] n) ⟨3, 1, (atI f (c.parent - 1)).kids.map cI⟩ = ⟨3, 1, (atI f (c.parent - 1)).kids.map cI⟩ := fun n => renB_cI _ _ _ _
  obtain ⟨nd, hnd⟩ : ∃ nd, nd = atI f (c.node - 1) := ⟨_, rfl⟩
  rw [← hnd] at hp0
  obtain ⟨kk, hkk, hnode⟩ : ∃ kk : AV, kk = (if c.node - 1 = c.parent - 1 then (.os 2 (atI f (c.parent - 1)).kids.length) else .imm (.sl (nd.kids.map i64))) ∧ atI (rowsK f (c.parent - 1) (.os 2 (atI f (c.parent - 1)).kids.length)) (c.node - 1) = nodeRow nd kk := by
    refine ⟨_, rfl, ?_⟩
    rw [rowsK_at f _ _ (by omega) (by omega) _ (by omega) (by omega), hnd]
    split
    · rename_i e; rw [e]
    · rfl
  have hpar : atI (rowsK f (c.parent - 1) (.os 2 (atI f (c.parent - 1)).kids.length)) (c.parent - 1) = nodeRow (atI f (c.parent - 1)) (.os 2 (atI f (c.parent - 1)).kids.length) := by
    rw [rowsK_at f _ _ (by omega) (by omega) _ (by omega) (by omega), if_pos rfl]
  obtain ⟨R1, hR1⟩ : ∃ R1, R1 = (rowsK f (c.parent - 1) (.os 2 (atI f (c.parent - 1)).kids.length)).set (c.parent - 1).toNat (nodeRow (atI f (c.parent - 1)) (.os 2 (insAt (atI f (c.parent - 1)).kids c.index c.node).length)) := ⟨_, rfl⟩
  have hR1l : R1.length = f.length := by rw [hR1, List.length_set, hR]
  obtain ⟨kk2, hkk2, hnode2⟩ : ∃ kk2 : AV, kk2 = (if c.node - 1 = c.parent - 1 then (.os 2 (insAt (atI f (c.parent - 1)).kids c.index c.node).length) else .imm (.sl (nd.kids.map i64))) ∧ atI R1 (c.node - 1) = nodeRow nd kk2 := by
    refine ⟨_, rfl, ?_⟩
    rw [hR1, atI_set _ _ _ _ (by omega) (by omega) (by omega), hnd]
    split
    · rename_i e; rw [e]
    · rename_i e
      rw [rowsK_at f _ _ (by omega) (by omega) _ (by omega) (by omega), if_neg e]; rfl
  have hfin : R1.set (c.node - 1).toNat (nodeRow { nd with parent := c.parent } kk2) = rowsK (insFM f c.node c.parent c.index) (c.parent - 1) (.os 2 (insAt (atI f (c.parent - 1)).kids c.index c.node).length) := by
    have hil := insFM_len f c.node c.parent c.index
    have hul : ∀ n, (updAt f (c.parent - 1) n).length = f.length := fun n => by unfold updAt; simp
    refine ext_atI (by rw [List.length_set, rowsK_len, hil, hR1l]) fun i g0 g1 => ?_
    rw [List.length_set] at g1
    rw [atI_set _ _ _ _ (by omega) (by omega) g0, rowsK_at _ _ _ (by omega) (by omega) _ g0 (by omega)]
    have hat : ∀ j : Int, 0 ≤ j → j < f.length → atI (insFM f c.node c.parent c.index) j = if j = c.node - 1 then { (if c.node - 1 = c.parent - 1 then { atI f (c.parent - 1) with kids := insAt (atI f (c.parent - 1)).kids c.index c.node } else atI f (c.node - 1)) with parent := c.parent } else if j = c.parent - 1 then { atI f (c.parent - 1) with kids := insAt (atI f (c.parent - 1)).kids c.index c.node } else atI f j := by
      intro j j0 j1
      unfold insFM
      rw [show updAt (updAt f (c.parent - 1) { atI f (c.parent - 1) with kids := insAt (atI f (c.parent - 1)).kids c.index c.node }) (c.node - 1) { atI (updAt f (c.parent - 1) { atI f (c.parent - 1) with kids := insAt (atI f (c.parent - 1)).kids c.index c.node }) (c.node - 1) with parent := c.parent } = (updAt f (c.parent - 1) { atI f (c.parent - 1) with kids := insAt (atI f (c.parent - 1)).kids c.index c.node }).set (c.node - 1).toNat { atI (updAt f (c.parent - 1) { atI f (c.parent - 1) with kids := insAt (atI f (c.parent - 1)).kids c.index c.node }) (c.node - 1) with parent := c.parent } from rfl]
      rw [atI_set _ _ _ _ (by omega) (by rw [hul]; omega) j0]
      unfold updAt
      rw [atI_set _ _ _ _ (by omega) (by omega) (by omega), atI_set _ _ _ _ (by omega) (by omega) j0]
    by_cases e1 : i = c.node - 1
    · rw [if_pos e1]
      by_cases e2 : c.node - 1 = c.parent - 1
      · rw [if_pos (by omega), hat _ (by omega) (by omega), if_pos (by omega), if_pos e2, hkk2, if_pos e2, hnd, e2]; rfl
      · rw [if_neg (by omega), hat _ g0 (by omega), if_pos e1, if_neg e2, hkk2, if_neg e2, hnd]; rfl
    · rw [if_neg e1, hR1, atI_set _ _ _ _ (by omega) (by omega) g0]
      by_cases e2 : i = c.parent - 1
      · rw [if_pos e2, if_pos e2, hat _ (by omega) (by omega), if_neg (by omega), if_pos rfl]; rfl
      · rw [if_neg e2, if_neg e2, rowsK_at f _ _ (by omega) (by omega) _ g0 (by omega), if_neg e2, hat _ g0 (by omega), if_neg e1, if_neg e2]
  have hscF : (rowsK (insFM f c.node c.parent c.index) (c.parent - 1) (.os 2 (insAt (atI f (c.parent - 1)).kids c.index c.node).length)).all (fun r => r.all (AV.sc1 3)) = true := rowsK_sc _ _ _ 3 rfl
  have gnode := get_atI (by omega) (by omega) hnode
  have gpar := get_atI (by omega) (by omega) hpar
  have gnode2 := get_atI (by omega) (by omega) hnode2
  refine GenC.mk tabs Tryz.func113 55 [.tmp 4] rfl rfl rfl rfl rfl ?_; intro w0 X γ κ
  refine AW.reserve 3 1 rfl ?_
  (repeat' (first | ((with_reducible show AL _ _ _ _ _); first | (refine AL.step tabs rfl ?_; try dsimp only [len, List.nil_append, List.cons_append]) | refine AL.callG [0, 1, 2] 5 rfl rfl rfl rfl rfl (caps := []) rfl (ends2_c f (rowsK f (c.parent - 1) (.os 2 (atI f (c.parent - 1)).kids.length)) (atI f (c.parent - 1)).kids c hR hl hsc h1 h2 h3 h4) rfl (by simp only [List.map_cons, List.map_nil, eN, eK]; rfl) rfl rfl (by simp only [List.all_cons, List.all_nil, Bool.and_true, Bool.and_eq_true]; exact ⟨rfl, hsc, (by simp only [List.all_cons, List.all_nil, List.all_map, Function.comp_def, cI, cB, iav, bav, AV.sc1, AV.sc0, Bool.and_true, Bool.and_self, all_tt]; try rfl)⟩) rfl (by simp only [List.all_cons, List.all_nil, Bool.and_true, Bool.and_eq_true]; exact ⟨rfl, hsc, (by simp only [List.all_cons, List.all_nil, List.all_map, Function.comp_def, cI, cB, iav, bav, AV.sc1, AV.sc0, Bool.and_true, Bool.and_self, all_tt]; try rfl)⟩) rfl (hpA := [⟨24, 1, [[.os 1 f.length]]⟩, ⟨44, 16, rowsK f (c.parent - 1) (.os 2 (atI f (c.parent - 1)).kids.length)⟩, ⟨3, 1, (atI f (c.parent - 1)).kids.map cI⟩]) (by simp only [List.map_cons, List.map_nil, eN, eK]; rfl) (r' := .tup [.ptr 1 f.length (c.node - 1).toNat 0, .ptr 1 f.length (c.parent - 1).toNat 0]) rfl rfl ?_ | refine AL.ope rfl (OpOK.nilCheckO (b := ⟨44, 16, R1⟩) rfl rfl rfl (by rw [hR1]; rfl) hR1l.symm) rfl ?_ | refine AL.ope rfl (OpOK.fieldAddrO (b := ⟨44, 16, R1⟩) tabs rfl rfl rfl rfl rfl rfl rfl (by rw [hR1]; rfl) hR1l.symm) rfl ?_ | refine AL.ope rfl (OpOK.store_own (i := ti3) (v := iav c.parent) (b := ⟨44, 16, R1⟩) (r := nodeRow nd kk2) tabs rfl rfl rfl rfl rfl (by rw [← nth_eq, hR1]; rfl) hR1l.symm rfl rfl (Nat.le_of_ble_eq_true rfl) gnode2) rfl ?_ | refine AL.nil ?_ | (refine AL.gsplitE rfl rfl rfl (fun hc => ?_) (fun hc => ?_) <;> (fail_if_success (exact absurd hc (by decide))) <;> (try simp only [hsx] at hc) <;> (try first | (exfalso; omega) | contradiction | (exfalso; simp [dec_eq] at hc; done))) | (refine AL.op rfl (OpOK.ari64 rfl rfl rfl rfl rfl (by omega) (by omega)) ?_) | (refine AL.op rfl (OpOK.index_map tabs rfl rfl rfl rfl rfl rfl rfl (fun _ => rfl) (by decide) (by omega) (by omega)) ?_) | (refine AL.op rfl (OpOK.eqs rfl rfl rfl rfl eqt39 rfl rfl) ?_) | (refine AL.op rfl (OpOK.eqs rfl rfl rfl rfl eqt104 rfl rfl) ?_) | (refine AL.op rfl (OpOK.eqs rfl rfl rfl rfl eqt167 rfl rfl) ?_) | (refine AL.op rfl (OpOK.eqs rfl rfl rfl rfl eqt177 rfl rfl) ?_)) | ((with_reducible show DQ _ _ _ _ _ _); first | refine DQ.stepc (LS.ptrnil (b := ⟨44, 16, rowsK f (c.parent - 1) (.os 2 (atI f (c.parent - 1)).kids.length)⟩) tabs rfl rfl rfl u153 rfl rfl hR.symm rfl) rfl rfl rfl rfl rfl ?_ | refine DQ.stepc (LS.nilCheck (b := ⟨44, 16, rowsK f (c.parent - 1) (.os 2 (atI f (c.parent - 1)).kids.length)⟩) rfl rfl rfl rfl rfl hR.symm) rfl rfl rfl rfl rfl ?_ | refine DQ.stepc (LS.fieldAddr (b := ⟨44, 16, rowsK f (c.parent - 1) (.os 2 (atI f (c.parent - 1)).kids.length)⟩) tabs rfl rfl rfl rfl rfl rfl rfl rfl rfl hR.symm) rfl rfl rfl rfl rfl ?_ | refine DQ.stepc (LS.load_own (i := ti3) (r := nodeRow nd kk) (b := ⟨44, 16, rowsK f (c.parent - 1) (.os 2 (atI f (c.parent - 1)).kids.length)⟩) (row := (c.node - 1).toNat) tabs rfl rfl rfl rfl rfl rfl hR.symm gnode rfl) rfl rfl rfl rfl rfl ?_ | refine DQ.stepc (LS.load_own (i := ti41) (r := nodeRow (atI f (c.parent - 1)) (.os 2 (atI f (c.parent - 1)).kids.length)) (b := ⟨44, 16, rowsK f (c.parent - 1) (.os 2 (atI f (c.parent - 1)).kids.length)⟩) (row := (c.parent - 1).toNat) tabs rfl rfl rfl rfl rfl rfl hR.symm gpar rfl) rfl rfl rfl rfl rfl ?_ | refine DQ.stepc (LS.len_os (b := ⟨3, 1, (atI f (c.parent - 1)).kids.map cI⟩) tabs rfl rfl rfl rfl rfl rfl rfl (by simp)) rfl rfl rfl rfl rfl ?_ | refine DQ.stepc (LS.lit 3 tabs rfl rfl rfl rfl rfl rfl rfl rfl rfl rfl rfl rfl) rfl rfl rfl rfl rfl ?_ | refine DQ.stepc (LS.callG2 2 3 (r' := .os 2 (insAt (atI f (c.parent - 1)).kids c.index c.node).length) (bA := ⟨3, 1, (insAt (atI f (c.parent - 1)).kids c.index c.node).map cI⟩) rfl rfl rfl rfl rfl (insM_c (atI f (c.parent - 1)).kids c.index c.node hi0 hi1 (hf.atI (c.parent - 1) (by omega) (by omega)).kids) (fun _ => rfl) rfl rfl rfl (fun _ => (renB_cI _ _ _ _).symm) (fun _ => rfl) rfl (by simp only [List.all_cons, List.all_nil, List.all_map, Function.comp_def, cI, cB, iav, bav, AV.sc1, AV.sc0, Bool.and_true, Bool.and_self, all_tt]; try rfl) rfl (by simp only [List.all_cons, List.all_nil, List.all_map, Function.comp_def, cI, cB, iav, bav, AV.sc1, AV.sc0, Bool.and_true, Bool.and_self, all_tt]; try rfl) (fun _ => renB_cI _ _ _ _) (fun _ => rfl)) rfl rfl rfl rfl rfl ?_ | refine DQ.stepc (LS.store (i := ti41) (v := (.os 2 (insAt (atI f (c.parent - 1)).kids c.index c.node).length)) (ty := 44) (sz := 16) (rows := rowsK f (c.parent - 1) (.os 2 (atI f (c.parent - 1)).kids.length)) (r := nodeRow (atI f (c.parent - 1)) (.os 2 (atI f (c.parent - 1)).kids.length)) tabs rfl rfl rfl rfl rfl rfl rfl hR.symm rfl rfl (by decide) gpar) rfl rfl rfl rfl rfl ?_ | refine DQ.stepc (LS.val tabs rfl rfl rfl) rfl rfl rfl rfl rfl ?_ | refine DQ.stepc (LS.skip rfl rfl) rfl rfl rfl rfl rfl ?_ | refine DQ.nilM (by kernel_rfl) ?_ | refine DQ.stepc (LS.ari64 rfl rfl rfl rfl rfl rfl (by omega) (by omega)) rfl rfl rfl rfl rfl ?_ | refine DQ.stepc (LS.index_map tabs rfl rfl rfl rfl rfl rfl rfl rfl (fun _ => rfl) (by decide) (by omega) (by omega)) rfl rfl rfl rfl rfl ?_ | (refine DQ.gsplitE rfl rfl rfl (fun hc => ?_) (fun hc => ?_) <;> (fail_if_success (exact absurd hc (by decide))) <;> (try simp only [hsx] at hc) <;> (try first | (exfalso; omega) | contradiction | (exfalso; simp [dec_eq] at hc; done))) | refine DQ.stepc (LS.eqs rfl rfl rfl rfl rfl eqt39 rfl rfl) rfl rfl rfl rfl rfl ?_ | refine DQ.stepc (LS.eqs rfl rfl rfl rfl rfl eqt104 rfl rfl) rfl rfl rfl rfl rfl ?_ | refine DQ.stepc (LS.eqs rfl rfl rfl rfl rfl eqt167 rfl rfl) rfl rfl rfl rfl rfl ?_ | refine DQ.stepc (LS.eqs rfl rfl rfl rfl rfl eqt177 rfl rfl) rfl rfl rfl rfl rfl ?_) | refine AW.seq ?_ | refine AW.region ?_ | refine Then.norm ?_ | refine AW.skip ?_ | refine AW.block ?_ | refine InB.norm ?_ | refine AW.condT rfl ?_ | refine AW.condF rfl ?_ | (refine AW.cond rfl (fun hc => ?_) (fun hc => ?_) <;> (try simp only [hsx] at hc) <;> (try first | (exfalso; omega) | contradiction | (exfalso; simp [dec_eq] at hc; done))) | refine AW.ret ?_ | refine AW.exit ?_ | refine Then.ret ?_ | refine Then.exit ?_ | refine InB.ret ?_ | refine InB.here ?_ | refine InB.off rfl ?_ | refine Rnd.ret ?_ | refine Rnd.exit ?_ | refine AW.drawW mixed (by kernel_rfl) ?_))
  all_goals first
    | (exfalso; omega)
    | (refine RG.ret 3 rfl rfl (by rw [← hfin]; rfl) rfl ?_ (by simp [cxG])
       simp only [List.all_cons, List.all_nil, Bool.and_true, Bool.and_eq_true]
       exact ⟨rfl, hscF, (by simp only [List.all_cons, List.all_nil, List.all_map, Function.comp_def, cI, cB, iav, bav, AV.sc1, AV.sc0, Bool.and_true, Bool.and_self, all_tt]; try rfl)⟩)

end Go.Proofs.YtmhejcnaanocpaaGreat.A
namespace Go.Proofs.YtmhejcnaanocpaaGreat.A
set_option linter.unusedVariables false
set_option linter.unusedSimpArgs false
set_option maxRecDepth 100000
set_option maxHeartbeats 4000000
def cU (x : Int) : List AV := [.imm (.int .u16 x)]
theorem cloneDl_c (l : List Int) (hl : l.length ≤ 1000000000) (hne : l ≠ []) : GenC Tryz.prog 106 [⟨55, 1, []⟩] [.imm (.sl (l.map u16))] (.os 0 l.length) [⟨55, 1, l.map cU⟩] := by
  have e : (l.map u16).map (·.map AV.imm) = l.map cU := by simp [cU, u16, cU]
  have e1 : ((l.map u16).map (·.map AV.imm)).length = l.length := by simp
  refine GenC.mk tabs Tryz.func106 8 [.tmp 2] rfl rfl rfl rfl rfl ?_; intro w0 X γ κ
  (repeat' (first | ((with_reducible show AL _ _ _ _ _); first | refine AL.ope rfl (OpOK.lit0 tabs rfl rfl rfl rfl rfl rfl) rfl ?_ | (refine AL.step tabs rfl ?_; try dsimp only [len, List.nil_append, List.cons_append]) | refine AL.slnil tabs rfl rfl rfl rfl rfl rfl rfl (fun b hb => ?_) | refine AL.ope rfl (OpOK.append_nocap_at 0 (ie := ti55) tabs rfl rfl rfl rfl rfl (by decide) rfl rfl rfl (rows2 := (l.map u16).map (·.map AV.imm)) (by simpa using hne) (SrcA.imm (rows := l.map u16) tabs rfl rfl rfl (by simp [u16, ti55])) (by simp [ti55]; omega) (by simp; omega)) rfl ?_ | refine AL.nil ?_ | (refine AL.gsplitE rfl rfl rfl (fun hc => ?_) (fun hc => ?_) <;> (fail_if_success (exact absurd hc (by decide))) <;> (try simp only [hsx] at hc) <;> (try first | (exfalso; omega) | contradiction | (exfalso; simp [dec_eq] at hc; done))) | (refine AL.op rfl (OpOK.ari64 rfl rfl rfl rfl rfl (by omega) (by omega)) ?_) | (refine AL.op rfl (OpOK.index_map tabs rfl rfl rfl rfl rfl rfl rfl (fun _ => rfl) (by decide) (by omega) (by omega)) ?_) | (refine AL.op rfl (OpOK.eqs rfl rfl rfl rfl eqt39 rfl rfl) ?_) | (refine AL.op rfl (OpOK.eqs rfl rfl rfl rfl eqt104 rfl rfl) ?_) | (refine AL.op rfl (OpOK.eqs rfl rfl rfl rfl eqt167 rfl rfl) ?_) | (refine AL.op rfl (OpOK.eqs rfl rfl rfl rfl eqt177 rfl rfl) ?_)) | refine AW.seq ?_ | refine AW.region ?_ | refine Then.norm ?_ | refine AW.skip ?_ | refine AW.block ?_ | refine InB.norm ?_ | refine AW.condT rfl ?_ | refine AW.condF rfl ?_ | (refine AW.cond rfl (fun hc => ?_) (fun hc => ?_) <;> (try simp only [hsx] at hc) <;> (try first | (exfalso; omega) | contradiction | (exfalso; simp [dec_eq] at hc; done))) | refine AW.ret ?_ | refine AW.exit ?_ | refine Then.ret ?_ | refine Then.exit ?_ | refine InB.ret ?_ | refine InB.here ?_ | refine InB.off rfl ?_ | refine Rnd.ret ?_ | refine Rnd.exit ?_))
  · have e : l = [] := by simpa using hb hc
    exact absurd e hne
  · refine RG.ret 1 rfl ?_ ?_ rfl ?_ (by simp [cxG])
    · show AV.os 0 ((l.map u16).map (·.map AV.imm)).length = _
      rw [e1]
    · show _ = [(⟨55, 1, (l.map u16).map (·.map AV.imm)⟩ : Blk)]
      rw [e]
    · exact (by simp only [List.all_cons, List.all_nil, List.all_map, Function.comp_def, cI, cB, cU, iav, bav, AV.sc1, AV.sc0, Bool.and_true, Bool.and_self, all_tt]; try rfl)
def nodeRowD (n : Node) (k : AV) : List AV := [kav n.kind, sav n.name.sp, sav n.name.pf, sav n.name.lc, sav n.pub, sav n.sys, k, .imm (.sl (n.attrs.map Attr.iv)), iav n.parent, .imm (.sl (n.kids.map i64)), iav n.doc, iav n.host, iav n.shadow, kav n.mode, bav n.manual, bav n.html]
theorem rowS_rowD (n : Node) : rowS n = nodeRowD n (.imm (.sl (n.data.map u16))) := rfl
theorem cloneD0_c : PureC Tryz.prog 106 [.imm (.sl [])] .nocap := by
  refine PureC.mk tabs Tryz.func106 8 [.tmp 2] rfl rfl rfl rfl rfl ?_; intro w0 X
  (repeat' (first | ((with_reducible show AL _ _ _ _ _); first | refine AL.ope rfl (OpOK.lit0 tabs rfl rfl rfl rfl rfl rfl) rfl ?_ | (refine AL.step tabs rfl ?_; try dsimp only [len, List.nil_append, List.cons_append]) | refine AL.slnil tabs rfl rfl rfl rfl rfl rfl rfl (fun b hb => ?_) | refine AL.ope rfl (OpOK.append_nocap0 tabs rfl rfl rfl rfl rfl rfl (SrcA.imm (rows := []) tabs rfl rfl rfl (by simp))) rfl ?_ | refine AL.nil ?_ | (refine AL.gsplitE rfl rfl rfl (fun hc => ?_) (fun hc => ?_) <;> (fail_if_success (exact absurd hc (by decide))) <;> (try simp only [hsx] at hc) <;> (try first | (exfalso; omega) | contradiction | (exfalso; simp [dec_eq] at hc; done))) | (refine AL.op rfl (OpOK.ari64 rfl rfl rfl rfl rfl (by omega) (by omega)) ?_) | (refine AL.op rfl (OpOK.index_map tabs rfl rfl rfl rfl rfl rfl rfl (fun _ => rfl) (by decide) (by omega) (by omega)) ?_) | (refine AL.op rfl (OpOK.eqs rfl rfl rfl rfl eqt39 rfl rfl) ?_) | (refine AL.op rfl (OpOK.eqs rfl rfl rfl rfl eqt104 rfl rfl) ?_) | (refine AL.op rfl (OpOK.eqs rfl rfl rfl rfl eqt167 rfl rfl) ?_) | (refine AL.op rfl (OpOK.eqs rfl rfl rfl rfl eqt177 rfl rfl) ?_)) | refine AW.seq ?_ | refine AW.region ?_ | refine Then.norm ?_ | refine AW.skip ?_ | refine AW.block ?_ | refine InB.norm ?_ | refine AW.condT rfl ?_ | refine AW.condF rfl ?_ | (refine AW.cond rfl (fun hc => ?_) (fun hc => ?_) <;> (try simp only [hsx] at hc) <;> (try first | (exfalso; omega) | contradiction | (exfalso; simp [dec_eq] at hc; done))) | refine AW.ret ?_ | refine AW.exit ?_ | refine Then.ret ?_ | refine Then.exit ?_ | refine InB.ret ?_ | refine InB.here ?_ | refine InB.off rfl ?_ | refine Rnd.ret ?_ | refine Rnd.exit ?_))
  · exact RQ.ret rfl fun γ κ a W x hC hr => by cases hr; exact .nocap _
  · exact RQ.ret rfl (Fz.im rfl)
theorem cloneD0' {l : List Int} (h : l = []) : PureC Tryz.prog 106 [.imm (.sl (l.map u16))] .nocap := by subst h; exact cloneD0_c
theorem copyNodeD0_c (n : Node) (hn : FitN n) (hk : n.data = []) : PureC Tryz.prog 94 [n.av] (.agg (nodeRowD n .nocap)) := by
  refine PureC.mk tabs Tryz.func94 16 [.cell 2 44] rfl rfl rfl rfl rfl ?_; intro w0 X
  (repeat' (first | ((with_reducible show AL _ _ _ _ _); first | (refine AL.step tabs rfl ?_; try dsimp only [len, List.nil_append, List.cons_append]) | refine AL.op rfl (OpOK.call rfl rfl rfl rfl (cloneD0' hk) rfl) ?_ | refine AL.op rfl (OpOK.call rfl rfl rfl rfl (cloneA_c n.attrs hn.attrs) rfl) ?_ | refine AL.op rfl (OpOK.call rfl rfl rfl rfl (cloneI_c n.kids hn.kids) rfl) ?_ | refine AL.nil ?_ | (refine AL.gsplitE rfl rfl rfl (fun hc => ?_) (fun hc => ?_) <;> (fail_if_success (exact absurd hc (by decide))) <;> (try simp only [hsx] at hc) <;> (try first | (exfalso; omega) | contradiction | (exfalso; simp [dec_eq] at hc; done))) | (refine AL.op rfl (OpOK.ari64 rfl rfl rfl rfl rfl (by omega) (by omega)) ?_) | (refine AL.op rfl (OpOK.index_map tabs rfl rfl rfl rfl rfl rfl rfl (fun _ => rfl) (by decide) (by omega) (by omega)) ?_) | (refine AL.op rfl (OpOK.eqs rfl rfl rfl rfl eqt39 rfl rfl) ?_) | (refine AL.op rfl (OpOK.eqs rfl rfl rfl rfl eqt104 rfl rfl) ?_) | (refine AL.op rfl (OpOK.eqs rfl rfl rfl rfl eqt167 rfl rfl) ?_) | (refine AL.op rfl (OpOK.eqs rfl rfl rfl rfl eqt177 rfl rfl) ?_)) | refine AW.seq ?_ | refine AW.region ?_ | refine Then.norm ?_ | refine AW.skip ?_ | refine AW.block ?_ | refine InB.norm ?_ | refine AW.condT rfl ?_ | refine AW.condF rfl ?_ | (refine AW.cond rfl (fun hc => ?_) (fun hc => ?_) <;> (try simp only [hsx] at hc) <;> (try first | (exfalso; omega) | contradiction | (exfalso; simp [dec_eq] at hc; done))) | refine AW.ret ?_ | refine AW.exit ?_ | refine Then.ret ?_ | refine Then.exit ?_ | refine InB.ret ?_ | refine InB.here ?_ | refine InB.off rfl ?_ | refine Rnd.ret ?_ | refine Rnd.exit ?_))
  exact RQ.ret rfl (Fz.im rfl)
theorem copyNodeD_c (n : Node) (hn : FitN n) (hk : n.data ≠ []) : GenC Tryz.prog 94 [⟨55, 1, []⟩] [n.av] (.agg (nodeRowD n (.os 0 n.data.length))) [⟨55, 1, n.data.map cU⟩] := by
  have eR : ∀ m : Nat, (n.data.map cU).map (·.map (ren1 (rho [0] m))) = n.data.map cU := by
    intro m; simp [cU, ren1, ren0]
  refine GenC.mk tabs Tryz.func94 16 [.cell 2 44] rfl rfl rfl rfl rfl ?_; intro w0 X γ κ
  (repeat' (first | ((with_reducible show AL _ _ _ _ _); first | (refine AL.step tabs rfl ?_; try dsimp only [len, List.nil_append, List.cons_append]) | refine AL.op rfl (OpOK.call rfl rfl rfl rfl (cloneI_c n.kids hn.kids) rfl) ?_ | refine AL.op rfl (OpOK.call rfl rfl rfl rfl (cloneA_c n.attrs hn.attrs) rfl) ?_ | refine AL.callG [0] 3 rfl rfl rfl rfl rfl (caps := []) rfl (cloneDl_c n.data hn.data hk) rfl rfl rfl rfl rfl rfl (by simp only [List.all_cons, List.all_nil, List.all_map, Function.comp_def, cI, cB, cU, iav, bav, AV.sc1, AV.sc0, Bool.and_true, Bool.and_self, all_tt]; try rfl) rfl (hpA := [⟨55, 1, n.data.map cU⟩]) (by simp only [List.map_cons, List.map_nil, renB, eR]) rfl rfl ?_ | refine AL.nil ?_ | (refine AL.gsplitE rfl rfl rfl (fun hc => ?_) (fun hc => ?_) <;> (fail_if_success (exact absurd hc (by decide))) <;> (try simp only [hsx] at hc) <;> (try first | (exfalso; omega) | contradiction | (exfalso; simp [dec_eq] at hc; done))) | (refine AL.op rfl (OpOK.ari64 rfl rfl rfl rfl rfl (by omega) (by omega)) ?_) | (refine AL.op rfl (OpOK.index_map tabs rfl rfl rfl rfl rfl rfl rfl (fun _ => rfl) (by decide) (by omega) (by omega)) ?_) | (refine AL.op rfl (OpOK.eqs rfl rfl rfl rfl eqt39 rfl rfl) ?_) | (refine AL.op rfl (OpOK.eqs rfl rfl rfl rfl eqt104 rfl rfl) ?_) | (refine AL.op rfl (OpOK.eqs rfl rfl rfl rfl eqt167 rfl rfl) ?_) | (refine AL.op rfl (OpOK.eqs rfl rfl rfl rfl eqt177 rfl rfl) ?_)) | refine AW.seq ?_ | refine AW.region ?_ | refine Then.norm ?_ | refine AW.skip ?_ | refine AW.block ?_ | refine InB.norm ?_ | refine AW.condT rfl ?_ | refine AW.condF rfl ?_ | (refine AW.cond rfl (fun hc => ?_) (fun hc => ?_) <;> (try simp only [hsx] at hc) <;> (try first | (exfalso; omega) | contradiction | (exfalso; simp [dec_eq] at hc; done))) | refine AW.ret ?_ | refine AW.exit ?_ | refine Then.ret ?_ | refine Then.exit ?_ | refine InB.ret ?_ | refine InB.here ?_ | refine InB.off rfl ?_ | refine Rnd.ret ?_ | refine Rnd.exit ?_))
  refine RG.ret 1 rfl rfl rfl rfl ?_ (by simp [cxG])
  exact (by simp only [List.all_cons, List.all_nil, List.all_map, Function.comp_def, cI, cB, cU, iav, bav, AV.sc1, AV.sc0, Bool.and_true, Bool.and_self, all_tt]; try rfl)
def rowsD (f : List Node) (p : Int) (k : AV) : List (List AV) := (f.map rowS).set p.toNat (nodeRowD (atI f p) k)
theorem rowsD_len (f : List Node) (p : Int) (k : AV) : (rowsD f p k).length = f.length := by unfold rowsD; simp
theorem rowsD_at (f : List Node) (p : Int) (k : AV) (hp : 0 ≤ p) (hp1 : p < f.length) (i : Int) (h0 : 0 ≤ i) (h1 : i < f.length) : atI (rowsD f p k) i = if i = p then nodeRowD (atI f p) k else rowS (atI f i) := by
  unfold rowsD
  rw [atI_set _ _ _ _ hp (by simpa using hp1) h0, atI_map _ _ _ h0 h1]
theorem rowsD_mem {f : List Node} {p : Int} {k : AV} {r : List AV} (h : r ∈ rowsD f p k) : r = nodeRowD (atI f p) k ∨ ∃ n ∈ f, r = rowS n := by
  unfold rowsD at h
  rcases List.mem_or_eq_of_mem_set h with h | h
  · obtain ⟨n, h1, h2⟩ := List.mem_map.1 h
    exact .inr ⟨n, h1, h2.symm⟩
  · exact .inl h
theorem rowsD_sc (f : List Node) (p : Int) (k : AV) (m : Nat) (h : k.sc1 m = true) : (rowsD f p k).all (fun r => r.all (AV.sc1 m)) = true := by
  rw [List.all_eq_true]
  intro r hr
  rcases rowsD_mem hr with rfl | ⟨n, _, rfl⟩
  · unfold nodeRowD
    simp only [List.all_cons, List.all_nil, h]
    rfl
  · exact rowS_all n m
theorem copyOfD_c (f : List Node) (p : Int) (hf : Fit f) (hp : 0 ≤ p) (hp1 : p < f.length) (hk : (atI f p).data ≠ []) : GenC Tryz.prog 70 [⟨44, 16, []⟩, ⟨55, 1, []⟩] [fav f] (.agg [.os 0 f.length]) [⟨44, 16, rowsD f p (.os 1 (atI f p).data.length)⟩, ⟨55, 1, (atI f p).data.map cU⟩] := by
  have hl := hf.len
  have hm : (List.map Node.iv f).length = f.length := List.length_map _
  obtain ⟨T, hT0⟩ : ∃ T, T = rowsD f p (.os 1 (atI f p).data.length) := ⟨_, rfl⟩
  rw [← hT0]
  have hT : T.length = f.length := by rw [hT0, rowsD_len]
  have hat : ∀ i : Int, 0 ≤ i → i < f.length → atI T i = if i = p then nodeRowD (atI f p) (.os 1 (atI f p).data.length) else rowS (atI f i) := fun i h0 h1 => by rw [hT0]; exact rowsD_at f p _ hp hp1 i h0 h1
  have hsc : ∀ k, 2 ≤ k → T.all (fun r => r.all (AV.sc1 k)) = true := fun k hk => by
    rw [hT0]; exact rowsD_sc f p _ k (by simp only [AV.sc1, AV.sc0, Nat.blt_eq]; omega)
  clear hT0
  obtain ⟨K, hK⟩ : ∃ K : Int → List Int, ∀ i, K i = if p < i then (atI f p).data else [] := ⟨fun i => if p < i then (atI f p).data else [], fun _ => rfl⟩
  have eR : ∀ m : Nat, ((atI f p).data.map cU).map (·.map (ren1 (rho [1] m))) = (atI f p).data.map cU := by
    intro m; simp [cU, ren1, ren0]
  have hz : ∀ k, (ti44.zero.all (AV.sc1 k)) = true := fun k => rfl
  refine GenC.mk tabs Tryz.func70 27 [.cell 2 24] rfl rfl rfl rfl rfl ?_; intro w0 X γ κ
  (repeat' (first | ((with_reducible show AL _ _ _ _ _); first | (refine AL.step tabs rfl ?_; try dsimp only [len, List.nil_append, List.cons_append]) | refine AL.ope rfl (OpOK.make_at 0 tabs rfl rfl rfl rfl rfl rfl rfl rfl rfl (by omega) (by omega) (by omega) rfl (by simp only [ti44]; omega)) rfl ?_ | refine AL.nil ?_ | (refine AL.gsplitE rfl rfl rfl (fun hc => ?_) (fun hc => ?_) <;> (fail_if_success (exact absurd hc (by decide))) <;> (try simp only [hsx] at hc) <;> (try first | (exfalso; omega) | contradiction | (exfalso; simp [dec_eq] at hc; done))) | (refine AL.op rfl (OpOK.ari64 rfl rfl rfl rfl rfl (by omega) (by omega)) ?_) | (refine AL.op rfl (OpOK.index_map tabs rfl rfl rfl rfl rfl rfl rfl (fun _ => rfl) (by decide) (by omega) (by omega)) ?_) | (refine AL.op rfl (OpOK.eqs rfl rfl rfl rfl eqt39 rfl rfl) ?_) | (refine AL.op rfl (OpOK.eqs rfl rfl rfl rfl eqt104 rfl rfl) ?_) | (refine AL.op rfl (OpOK.eqs rfl rfl rfl rfl eqt167 rfl rfl) ?_) | (refine AL.op rfl (OpOK.eqs rfl rfl rfl rfl eqt177 rfl rfl) ?_)) | ((with_reducible show DQ _ _ _ _ _ _); first | refine DQ.stepc (LS.val tabs rfl rfl rfl) rfl rfl rfl rfl rfl ?_ | refine DQ.stepc (LS.skip rfl rfl) rfl rfl rfl rfl rfl ?_ | refine DQ.nilM (by kernel_rfl) ?_ | refine DQ.stepc (LS.ari64 rfl rfl rfl rfl rfl rfl (by omega) (by omega)) rfl rfl rfl rfl rfl ?_ | refine DQ.stepc (LS.index_map tabs rfl rfl rfl rfl rfl rfl rfl rfl (fun _ => rfl) (by decide) (by omega) (by omega)) rfl rfl rfl rfl rfl ?_ | (refine DQ.gsplitE rfl rfl rfl (fun hc => ?_) (fun hc => ?_) <;> (fail_if_success (exact absurd hc (by decide))) <;> (try simp only [hsx] at hc) <;> (try first | (exfalso; omega) | contradiction | (exfalso; simp [dec_eq] at hc; done))) | refine DQ.stepc (LS.eqs rfl rfl rfl rfl rfl eqt39 rfl rfl) rfl rfl rfl rfl rfl ?_ | refine DQ.stepc (LS.eqs rfl rfl rfl rfl rfl eqt104 rfl rfl) rfl rfl rfl rfl rfl ?_ | refine DQ.stepc (LS.eqs rfl rfl rfl rfl rfl eqt167 rfl rfl) rfl rfl rfl rfl rfl ?_ | refine DQ.stepc (LS.eqs rfl rfl rfl rfl rfl eqt177 rfl rfl) rfl rfl rfl rfl rfl ?_) | refine AW.seq ?_ | refine AW.region ?_ | refine Then.norm ?_ | refine AW.skip ?_ | refine AW.block ?_ | refine InB.norm ?_ | refine AW.condT rfl ?_ | refine AW.condF rfl ?_ | (refine AW.cond rfl (fun hc => ?_) (fun hc => ?_) <;> (try simp only [hsx] at hc) <;> (try first | (exfalso; omega) | contradiction | (exfalso; simp [dec_eq] at hc; done))) | refine AW.ret ?_ | refine AW.exit ?_ | refine Then.ret ?_ | refine Then.exit ?_ | refine InB.ret ?_ | refine InB.here ?_ | refine InB.off rfl ?_ | refine Rnd.ret ?_ | refine Rnd.exit ?_ | refine AW.drawW mixed (by kernel_rfl) ?_))
  refine AW.loop (α := Int) (fun i => ⟨[(2, .ptr 3 1 0 0), (3, .ptr 4 1 0 0), (12, .imm (.sl (f.map Node.iv))), (13, iav (List.map Node.iv f).length), (14, iav i)], [⟨44, 16, T.take i.toNat ++ List.replicate (f.length - i.toNat) ti44.zero⟩, ⟨55, 1, (K i).map cU⟩, ⟨24, 1, [[.imm (.sl (f.map Node.iv))]]⟩, ⟨24, 1, [[.nils]]⟩, ⟨24, 1, [[.os 0 f.length]]⟩]⟩) (fun i => 0 ≤ i ∧ i ≤ f.length) (fun i => (f.length - i).toNat) 0 (Le.cut 5 (by rw [hK, if_neg (by omega), ← hm]; rfl) (by repeat' (first | exact trivial | refine ⟨rfl, ?_⟩)) rfl (by simp only [List.all_cons, List.all_nil, Bool.and_true, Bool.and_eq_true]; exact ⟨all_rows _ _ _ (hsc _ (by omega)), (by simp only [List.all_cons, List.all_nil, List.all_map, Function.comp_def, cI, cB, cU, iav, bav, AV.sc1, AV.sc0, Bool.and_true, Bool.and_self, all_tt]; try rfl), rfl, rfl, rfl⟩) (by simp [cxG])) ⟨by omega, by omega⟩ ?_
  intro i ⟨h0, h2⟩
  by_cases hip : i = p
  · subst hip
    have e1 : K i = [] := by rw [hK, if_neg (by omega)]
    have e2 : K (i + 1) = (atI f i).data := by rw [hK, if_pos (by omega)]
    have e3 := hat i hp hp1
    rw [if_pos rfl] at e3
    rw [e1]
    (repeat' (first | ((with_reducible show AL _ _ _ _ _); first | (refine AL.step tabs rfl ?_; try dsimp only [len, List.nil_append, List.cons_append]) | refine AL.nil ?_ | (refine AL.gsplitE rfl rfl rfl (fun hc => ?_) (fun hc => ?_) <;> (fail_if_success (exact absurd hc (by decide))) <;> (try simp only [hsx] at hc) <;> (try first | (exfalso; omega) | contradiction | (exfalso; simp [dec_eq] at hc; done))) | (refine AL.op rfl (OpOK.ari64 rfl rfl rfl rfl rfl (by omega) (by omega)) ?_) | (refine AL.op rfl (OpOK.index_map tabs rfl rfl rfl rfl rfl rfl rfl (fun _ => rfl) (by decide) (by omega) (by omega)) ?_) | (refine AL.op rfl (OpOK.eqs rfl rfl rfl rfl eqt39 rfl rfl) ?_) | (refine AL.op rfl (OpOK.eqs rfl rfl rfl rfl eqt104 rfl rfl) ?_) | (refine AL.op rfl (OpOK.eqs rfl rfl rfl rfl eqt167 rfl rfl) ?_) | (refine AL.op rfl (OpOK.eqs rfl rfl rfl rfl eqt177 rfl rfl) ?_)) | ((with_reducible show DQ _ _ _ _ _ _); first | refine DQ.stepc (LS.callG1 1 (r' := .agg (nodeRowD (atI f i) (.os 1 (atI f i).data.length))) rfl rfl rfl rfl rfl (copyNodeD_c (atI f i) (hf.atI i hp hp1) hk) rfl (fun _ => rfl) rfl rfl rfl (by simp only [List.all_cons, List.all_nil, List.all_map, Function.comp_def, cI, cB, cU, iav, bav, AV.sc1, AV.sc0, Bool.and_true, Bool.and_self, all_tt]; try rfl) (bA := ⟨55, 1, (atI f i).data.map cU⟩) (fun n => by simp only [renB, eR]) (fun _ => rfl)) rfl rfl rfl rfl rfl ?_ | refine DQ.stepc (LS.index_own (b := ⟨44, 16, T.take i.toNat ++ List.replicate (f.length - i.toNat) ti44.zero⟩) tabs rfl rfl rfl rfl rfl rfl rfl rfl rfl (take_rows _ _ _ _ hT h0 h2).symm rfl (by omega) (by omega)) rfl rfl rfl rfl rfl ?_ | refine DQ.stepc (LS.store (i := ti44) (v := .agg (nodeRowD (atI f i) (.os 1 (atI f i).data.length))) (ty := 44) (sz := 16) (rows := T.take i.toNat ++ List.replicate (f.length - i.toNat) ti44.zero) tabs rfl rfl rfl rfl rfl rfl rfl (take_rows _ _ _ _ hT h0 h2).symm rfl rfl (by decide) (take_at _ _ _ _ hT h0 (by omega))) rfl rfl rfl rfl rfl ?_ | refine DQ.stepc (LS.val tabs rfl rfl rfl) rfl rfl rfl rfl rfl ?_ | refine DQ.stepc (LS.skip rfl rfl) rfl rfl rfl rfl rfl ?_ | refine DQ.nilM (by kernel_rfl) ?_ | refine DQ.stepc (LS.ari64 rfl rfl rfl rfl rfl rfl (by omega) (by omega)) rfl rfl rfl rfl rfl ?_ | refine DQ.stepc (LS.index_map tabs rfl rfl rfl rfl rfl rfl rfl rfl (fun _ => rfl) (by decide) (by omega) (by omega)) rfl rfl rfl rfl rfl ?_ | (refine DQ.gsplitE rfl rfl rfl (fun hc => ?_) (fun hc => ?_) <;> (fail_if_success (exact absurd hc (by decide))) <;> (try simp only [hsx] at hc) <;> (try first | (exfalso; omega) | contradiction | (exfalso; simp [dec_eq] at hc; done))) | refine DQ.stepc (LS.eqs rfl rfl rfl rfl rfl eqt39 rfl rfl) rfl rfl rfl rfl rfl ?_ | refine DQ.stepc (LS.eqs rfl rfl rfl rfl rfl eqt104 rfl rfl) rfl rfl rfl rfl rfl ?_ | refine DQ.stepc (LS.eqs rfl rfl rfl rfl rfl eqt167 rfl rfl) rfl rfl rfl rfl rfl ?_ | refine DQ.stepc (LS.eqs rfl rfl rfl rfl rfl eqt177 rfl rfl) rfl rfl rfl rfl rfl ?_) | refine AW.seq ?_ | refine AW.region ?_ | refine Then.norm ?_ | refine AW.skip ?_ | refine AW.block ?_ | refine InB.norm ?_ | refine AW.condT rfl ?_ | refine AW.condF rfl ?_ | (refine AW.cond rfl (fun hc => ?_) (fun hc => ?_) <;> (try simp only [hsx] at hc) <;> (try first | (exfalso; omega) | contradiction | (exfalso; simp [dec_eq] at hc; done))) | refine AW.ret ?_ | refine AW.exit ?_ | refine Then.ret ?_ | refine Then.exit ?_ | refine InB.ret ?_ | refine InB.here ?_ | refine InB.off rfl ?_ | refine Rnd.ret ?_ | refine Rnd.exit ?_ | refine AW.drawW mixed (by kernel_rfl) ?_))
    refine Rnd.norm (i + 1) (Le.cut 5 (by rw [← take_set T ti44.zero f.length i hT h0 (by assumption), e2, e3]; rfl) (by repeat' (first | exact trivial | refine ⟨rfl, ?_⟩)) rfl (by simp only [List.all_cons, List.all_nil, Bool.and_true, Bool.and_eq_true]; exact ⟨all_rows _ _ _ (hsc _ (by omega)), (by simp only [List.all_cons, List.all_nil, List.all_map, Function.comp_def, cI, cB, cU, iav, bav, AV.sc1, AV.sc0, Bool.and_true, Bool.and_self, all_tt]; try rfl), rfl, rfl, rfl⟩) (by simp [cxG])) ⟨by omega, by omega⟩ (by omega)
  · have e2 : i < f.length → K (i + 1) = K i := fun hi => by
      rw [hK, hK]
      by_cases h : p < i
      · rw [if_pos (by omega), if_pos h]
      · rw [if_neg (by omega), if_neg h]
    have e3 : i < f.length → atI T i = rowS (atI f i) := fun hi => by rw [hat i h0 hi, if_neg hip]
    (repeat' (first | ((with_reducible show AL _ _ _ _ _); first | (refine AL.step tabs rfl ?_; try dsimp only [len, List.nil_append, List.cons_append]) | refine AL.nil ?_ | (refine AL.gsplitE rfl rfl rfl (fun hc => ?_) (fun hc => ?_) <;> (fail_if_success (exact absurd hc (by decide))) <;> (try simp only [hsx] at hc) <;> (try first | (exfalso; omega) | contradiction | (exfalso; simp [dec_eq] at hc; done))) | (refine AL.op rfl (OpOK.ari64 rfl rfl rfl rfl rfl (by omega) (by omega)) ?_) | (refine AL.op rfl (OpOK.index_map tabs rfl rfl rfl rfl rfl rfl rfl (fun _ => rfl) (by decide) (by omega) (by omega)) ?_) | (refine AL.op rfl (OpOK.eqs rfl rfl rfl rfl eqt39 rfl rfl) ?_) | (refine AL.op rfl (OpOK.eqs rfl rfl rfl rfl eqt104 rfl rfl) ?_) | (refine AL.op rfl (OpOK.eqs rfl rfl rfl rfl eqt167 rfl rfl) ?_) | (refine AL.op rfl (OpOK.eqs rfl rfl rfl rfl eqt177 rfl rfl) ?_)) | ((with_reducible show DQ _ _ _ _ _ _); first | refine DQ.stepc (LS.call rfl rfl rfl rfl rfl (copyNode_c (atI f i) (hf.atI i h0 (by omega))) rfl) rfl rfl rfl rfl rfl ?_ | refine DQ.stepc (LS.index_own (b := ⟨44, 16, T.take i.toNat ++ List.replicate (f.length - i.toNat) ti44.zero⟩) tabs rfl rfl rfl rfl rfl rfl rfl rfl rfl (take_rows _ _ _ _ hT h0 h2).symm rfl (by omega) (by omega)) rfl rfl rfl rfl rfl ?_ | refine DQ.stepc (LS.store (i := ti44) (v := .agg (rowS (atI f i))) (ty := 44) (sz := 16) (rows := T.take i.toNat ++ List.replicate (f.length - i.toNat) ti44.zero) tabs rfl rfl rfl rfl rfl rfl rfl (take_rows _ _ _ _ hT h0 h2).symm rfl rfl (by decide) (take_at _ _ _ _ hT h0 (by omega))) rfl rfl rfl rfl rfl ?_ | refine DQ.stepc (LS.val tabs rfl rfl rfl) rfl rfl rfl rfl rfl ?_ | refine DQ.stepc (LS.skip rfl rfl) rfl rfl rfl rfl rfl ?_ | refine DQ.nilM (by kernel_rfl) ?_ | refine DQ.stepc (LS.ari64 rfl rfl rfl rfl rfl rfl (by omega) (by omega)) rfl rfl rfl rfl rfl ?_ | refine DQ.stepc (LS.index_map tabs rfl rfl rfl rfl rfl rfl rfl rfl (fun _ => rfl) (by decide) (by omega) (by omega)) rfl rfl rfl rfl rfl ?_ | (refine DQ.gsplitE rfl rfl rfl (fun hc => ?_) (fun hc => ?_) <;> (fail_if_success (exact absurd hc (by decide))) <;> (try simp only [hsx] at hc) <;> (try first | (exfalso; omega) | contradiction | (exfalso; simp [dec_eq] at hc; done))) | refine DQ.stepc (LS.eqs rfl rfl rfl rfl rfl eqt39 rfl rfl) rfl rfl rfl rfl rfl ?_ | refine DQ.stepc (LS.eqs rfl rfl rfl rfl rfl eqt104 rfl rfl) rfl rfl rfl rfl rfl ?_ | refine DQ.stepc (LS.eqs rfl rfl rfl rfl rfl eqt167 rfl rfl) rfl rfl rfl rfl rfl ?_ | refine DQ.stepc (LS.eqs rfl rfl rfl rfl rfl eqt177 rfl rfl) rfl rfl rfl rfl rfl ?_) | refine AW.seq ?_ | refine AW.region ?_ | refine Then.norm ?_ | refine AW.skip ?_ | refine AW.block ?_ | refine InB.norm ?_ | refine AW.condT rfl ?_ | refine AW.condF rfl ?_ | (refine AW.cond rfl (fun hc => ?_) (fun hc => ?_) <;> (try simp only [hsx] at hc) <;> (try first | (exfalso; omega) | contradiction | (exfalso; simp [dec_eq] at hc; done))) | refine AW.ret ?_ | refine AW.exit ?_ | refine Then.ret ?_ | refine Then.exit ?_ | refine InB.ret ?_ | refine InB.here ?_ | refine InB.off rfl ?_ | refine Rnd.ret ?_ | refine Rnd.exit ?_ | refine AW.drawW mixed (by kernel_rfl) ?_))
    · refine Rnd.norm (i + 1) (Le.cut 5 (by rw [← take_set T ti44.zero f.length i hT h0 (by assumption), e2 (by assumption), e3 (by assumption)]; rfl) (by repeat' (first | exact trivial | refine ⟨rfl, ?_⟩)) rfl (by simp only [List.all_cons, List.all_nil, Bool.and_true, Bool.and_eq_true]; exact ⟨all_rows _ _ _ (hsc _ (by omega)), (by simp only [List.all_cons, List.all_nil, List.all_map, Function.comp_def, cI, cB, cU, iav, bav, AV.sc1, AV.sc0, Bool.and_true, Bool.and_self, all_tt]; try rfl), rfl, rfl, rfl⟩) (by simp [cxG])) ⟨by omega, by omega⟩ (by omega)
    · have e : T.take i.toNat ++ List.replicate (f.length - i.toNat) ti44.zero = T := by
        rw [take_end (by omega), show f.length - i.toNat = 0 by omega]; simp
      have e4 : K i = (atI f p).data := by rw [hK, if_pos (by omega)]
      refine RG.ret 2 rfl rfl (by rw [e, e4]; rfl) rfl ?_ (by simp [cxG])
      simp only [List.all_cons, List.all_nil, Bool.and_true, Bool.and_eq_true]
      exact ⟨hsc _ (by omega), (by simp only [List.all_cons, List.all_nil, List.all_map, Function.comp_def, cI, cB, cU, iav, bav, AV.sc1, AV.sc0, Bool.and_true, Bool.and_self, all_tt]; try rfl)⟩
end Go.Proofs.YtmhejcnaanocpaaGreat.A
