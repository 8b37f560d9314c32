/- Contracts: slices.Insert in the middle, forest.insert there. -/
import Derived.Test.YtmhejcnaanocpaaGreatXAskGrpAO
import Derived.Test.YtmhejcnaanocpaaGreatXAskGrpAP
namespace Go.Proofs.YtmhejcnaanocpaaGreat.A
open Go.RowKit
set_option linter.unusedVariables false
set_option linter.unusedSimpArgs false
set_option maxRecDepth 100000
set_option maxHeartbeats 4000000
def insAt (l : List Int) (i x : Int) : List Int := l.take i.toNat ++ x :: l.drop i.toNat
theorem qjg (l : List Int) (i x : Int) (h0 : 0 ≤ i) (h1 : i ≤ l.length) : (insAt l i x).length = l.length + 1 := by
  unfold insAt
  simp only [List.length_append, List.length_take, List.length_cons, List.length_drop]; omega
theorem qjh (l : List Int) (x : Int) : insAt l l.length x = l ++ [x] := by unfold insAt; simp
theorem qca {M : Mm} {n : Int} {v : Value} (h : RepA M (iav n) v) : v = .int .i64 n := by
  cases h with | imm _ _ h => exact h.int_inv
theorem qok (l : List Int) (i x : Int) (h0 : 0 ≤ i) (h1 : i < l.length) (hl : l.length ≤ 1000000000) : GenC Tryz.prog 150 [⟨3, 1, l.map cI⟩, ⟨3, 1, [cI x]⟩] [.os 0 l.length, iav i, .os 1 1] (.os 0 (insAt l i x).length) [⟨3, 1, (insAt l i x).map cI⟩, ⟨3, 1, [cI x]⟩] := by
  refine ⟨(qmy l x hl).1, fun W X γ κ xs hC hargs => ?_⟩
  obtain ⟨k, rfl⟩ : ∃ k : Nat, i = k := ⟨i.toNat, by omega⟩
  have hk : k < l.length := by omega
  have en : insAt l k x = l.take k ++ [x] ++ l.drop k := by unfold insAt; simp
  cases hargs with
  | cons a0 t =>
    cases t with
    | cons a1 t =>
      cases t with
      | cons a2 t =>
        cases t
        have e0 := a0.os_val (b := ⟨3, 1, l.map cI⟩) rfl (by simp)
        have e2 := a2.os_val (b := ⟨3, 1, [cI x]⟩) rfl rfl
        have e1 := qca a1
        subst e0 e1 e2
        obtain ⟨g1, sp1, hg1, hmem1, hcap1⟩ := ownI hC (id := 1) (l := [x]) rfl (by simp)
        obtain ⟨g0, sp0, hg0, hmem0, hcap0⟩ := ownI hC (id := 0) (l := l) rfl (fun e => by rw [e] at hk; simp at hk)
        have h := coreI hC (id := 0) (l := l) (v := [x]) (i := k) rfl hk (by simp) hl (by simp) (vb := g1) (voff := 0) (vc := κ 1) (fun e => by
            have := hC.inj 0 1 g1 (by simp) (by simp) e hg1
            cases this) (fun j y hy => by
            rw [qac hmem1]
            simp only [List.getElem?_toArray, Nat.zero_add]
            rw [List.getElem?_append_left (List.getElem?_eq_some_iff.1 hy).1]; exact hy)
        have hA : (St.mm ⟨[], [⟨3, 1, l.map cI⟩, ⟨3, 1, [cI x]⟩]⟩ (cxG Tryz.prog X [⟨3, 1, l.map cI⟩, ⟨3, 1, [cI x]⟩] γ κ W 0) γ κ W).γ 1 = some g1 := hg1
        rw [hA]
        refine h.mono ?_
        rintro e W' ⟨y, γ', κ', rfl, hC', hr⟩
        refine ⟨y, γ', κ', rfl, ?_, ?_⟩
        · rw [en]; exact hC'
        · rw [en]
          rw [show (l.take k ++ [x] ++ l.drop k).length = l.length + [x].length by simp only [List.length_append, List.length_take, List.length_drop, List.length_singleton]; omega]
          exact hr
def insFM (f : List Node) (node parent idx : Int) : List Node :=
  updAt (updAt f (parent - 1) { atI f (parent - 1) with kids := insAt (atI f (parent - 1)).kids idx node }) (node - 1)
    { atI (updAt f (parent - 1) { atI f (parent - 1) with kids := insAt (atI f (parent - 1)).kids idx node }) (node - 1) with parent := parent }
theorem qbv (f : List Node) (node parent idx : Int) : (insFM f node parent idx).length = f.length := by unfold insFM updAt; simp
theorem qji (f : List Node) (node parent : Int) : insFM f node parent (atI f (parent - 1)).kids.length = insF f node parent := by unfold insFM insF; rw [qjh]
theorem qjj (f : List Node) (c : Change) (hf : Fit f) (h1 : 1 ≤ c.node) (h2 : c.node ≤ f.length) (h3 : 1 ≤ c.parent) (h4 : c.parent ≤ f.length) (hi0 : 0 ≤ c.index) (hi1 : c.index < (atI f (c.parent - 1)).kids.length) (hp0 : (atI f (c.node - 1)).parent = 0) : GenC Tryz.prog 113 [⟨24, 1, [[.os 1 f.length]]⟩, ⟨44, 16, rowsK f (c.parent - 1) (.os 2 (atI f (c.parent - 1)).kids.length)⟩, ⟨3, 1, (atI f (c.parent - 1)).kids.map cI⟩] [.ptr 0 1 0 0, c.av] (bav true) [⟨24, 1, [[.os 1 f.length]]⟩, ⟨44, 16, rowsK (insFM f c.node c.parent c.index) (c.parent - 1) (.os 2 (insAt (atI f (c.parent - 1)).kids c.index c.node).length)⟩, ⟨3, 1, (insAt (atI f (c.parent - 1)).kids c.index c.node).map cI⟩] := by
  have hl := hf.len
  have hR := qaq f (c.parent - 1) (.os 2 (atI f (c.parent - 1)).kids.length)
  have hsc : (rowsK f (c.parent - 1) (.os 2 (atI f (c.parent - 1)).kids.length)).all (fun r => r.all (AV.sc1 3)) = true := qad f _ _ 3 rfl
  have eN : ∀ n, renB (rho [0, 1, 2] n) ⟨44, 16, rowsK f (c.parent - 1) (.os 2 (atI f (c.parent - 1)).kids.length)⟩ = ⟨44, 16, rowsK f (c.parent - 1) (.os 2 (atI f (c.parent - 1)).kids.length)⟩ := fun n => qk (rho3 n) hsc
  have eK : ∀ n, renB (rho [0, 1, 2] n) ⟨3, 1, (atI f (c.parent - 1)).kids.map cI⟩ = ⟨3, 1, (atI f (c.parent - 1)).kids.map cI⟩ := fun n => qn _ _ _ _
  obtain ⟨nd, hnd⟩ : ∃ nd, nd = atI f (c.node - 1) := ⟨_, rfl⟩
  rw [← hnd] at hp0
  obtain ⟨kk, hkk, hnode⟩ : ∃ kk : AV, kk = (if c.node - 1 = c.parent - 1 then (.os 2 (atI f (c.parent - 1)).kids.length) else .imm (.sl (nd.kids.map i64))) ∧ atI (rowsK f (c.parent - 1) (.os 2 (atI f (c.parent - 1)).kids.length)) (c.node - 1) = nodeRow nd kk := by
    refine ⟨_, rfl, ?_⟩
    rw [qaa f _ _ (by omega) (by omega) _ (by omega) (by omega), hnd]
    split
    · rename_i e; rw [e]
    · rfl
  have hpar : atI (rowsK f (c.parent - 1) (.os 2 (atI f (c.parent - 1)).kids.length)) (c.parent - 1) = nodeRow (atI f (c.parent - 1)) (.os 2 (atI f (c.parent - 1)).kids.length) := by
    rw [qaa f _ _ (by omega) (by omega) _ (by omega) (by omega), if_pos rfl]
  obtain ⟨R1, hR1⟩ : ∃ R1, R1 = (rowsK f (c.parent - 1) (.os 2 (atI f (c.parent - 1)).kids.length)).set (c.parent - 1).toNat (nodeRow (atI f (c.parent - 1)) (.os 2 (insAt (atI f (c.parent - 1)).kids c.index c.node).length)) := ⟨_, rfl⟩
  have hR1l : R1.length = f.length := by rw [hR1, List.length_set, hR]
  obtain ⟨kk2, hkk2, hnode2⟩ : ∃ kk2 : AV, kk2 = (if c.node - 1 = c.parent - 1 then (.os 2 (insAt (atI f (c.parent - 1)).kids c.index c.node).length) else .imm (.sl (nd.kids.map i64))) ∧ atI R1 (c.node - 1) = nodeRow nd kk2 := by
    refine ⟨_, rfl, ?_⟩
    rw [hR1, qt _ _ _ _ (by omega) (by omega) (by omega), hnd]
    split
    · rename_i e; rw [e]
    · rename_i e
      rw [qaa f _ _ (by omega) (by omega) _ (by omega) (by omega), if_neg e]; rfl
  have hfin : R1.set (c.node - 1).toNat (nodeRow { nd with parent := c.parent } kk2) = rowsK (insFM f c.node c.parent c.index) (c.parent - 1) (.os 2 (insAt (atI f (c.parent - 1)).kids c.index c.node).length) := by
    have hil := qbv f c.node c.parent c.index
    have hul : ∀ n, (updAt f (c.parent - 1) n).length = f.length := fun n => by unfold updAt; simp
    refine qe8 (by rw [List.length_set, qaq, hil, hR1l]) fun i g0 g1 => ?_
    rw [List.length_set] at g1
    rw [qt _ _ _ _ (by omega) (by omega) g0, qaa _ _ _ (by omega) (by omega) _ g0 (by omega)]
    have hat : ∀ j : Int, 0 ≤ j → j < f.length → atI (insFM f c.node c.parent c.index) j = if j = c.node - 1 then { (if c.node - 1 = c.parent - 1 then { atI f (c.parent - 1) with kids := insAt (atI f (c.parent - 1)).kids c.index c.node } else atI f (c.node - 1)) with parent := c.parent } else if j = c.parent - 1 then { atI f (c.parent - 1) with kids := insAt (atI f (c.parent - 1)).kids c.index c.node } else atI f j := by
      intro j j0 j1
      unfold insFM
      rw [show updAt (updAt f (c.parent - 1) { atI f (c.parent - 1) with kids := insAt (atI f (c.parent - 1)).kids c.index c.node }) (c.node - 1) { atI (updAt f (c.parent - 1) { atI f (c.parent - 1) with kids := insAt (atI f (c.parent - 1)).kids c.index c.node }) (c.node - 1) with parent := c.parent } = (updAt f (c.parent - 1) { atI f (c.parent - 1) with kids := insAt (atI f (c.parent - 1)).kids c.index c.node }).set (c.node - 1).toNat { atI (updAt f (c.parent - 1) { atI f (c.parent - 1) with kids := insAt (atI f (c.parent - 1)).kids c.index c.node }) (c.node - 1) with parent := c.parent } from rfl]
      rw [qt _ _ _ _ (by omega) (by rw [hul]; omega) j0]
      unfold updAt
      rw [qt _ _ _ _ (by omega) (by omega) (by omega), qt _ _ _ _ (by omega) (by omega) j0]
    by_cases e1 : i = c.node - 1
    · rw [if_pos e1]
      by_cases e2 : c.node - 1 = c.parent - 1
      · rw [if_pos (by omega), hat _ (by omega) (by omega), if_pos (by omega), if_pos e2, hkk2, if_pos e2, hnd, e2]; rfl
      · rw [if_neg (by omega), hat _ g0 (by omega), if_pos e1, if_neg e2, hkk2, if_neg e2, hnd]; rfl
    · rw [if_neg e1, hR1, qt _ _ _ _ (by omega) (by omega) g0]
      by_cases e2 : i = c.parent - 1
      · rw [if_pos e2, if_pos e2, hat _ (by omega) (by omega), if_neg (by omega), if_pos rfl]; rfl
      · rw [if_neg e2, if_neg e2, qaa f _ _ (by omega) (by omega) _ g0 (by omega), if_neg e2, hat _ g0 (by omega), if_neg e1, if_neg e2]
  have hscF : (rowsK (insFM f c.node c.parent c.index) (c.parent - 1) (.os 2 (insAt (atI f (c.parent - 1)).kids c.index c.node).length)).all (fun r => r.all (AV.sc1 3)) = true := qad _ _ _ 3 rfl
  have gnode := qav (by omega) (by omega) hnode
  have gpar := qav (by omega) (by omega) hpar
  have gnode2 := qav (by omega) (by omega) hnode2
  refine yaj tabs Tryz.func113 55 [.tmp 4] rfl rfl rfl rfl rfl ?_; intro w0 X γ κ
  refine AW.reserve 3 1 rfl ?_
  (repeat' (first | ((with_reducible show AL _ _ _ _ _); first | (refine AL.step tabs rfl ?_; try dsimp only [len, List.nil_append, List.cons_append]) | refine yac [0, 1, 2] 5 rfl rfl rfl rfl rfl (caps := []) rfl (qgu f (rowsK f (c.parent - 1) (.os 2 (atI f (c.parent - 1)).kids.length)) (atI f (c.parent - 1)).kids c hR hl hsc h1 h2 h3 h4) rfl (by simp only [List.map_cons, List.map_nil, eN, eK]; rfl) rfl rfl (by simp only [qax]; exact ⟨rfl, hsc, (by simp only [List.all_cons, List.all_nil, List.all_map, Function.comp_def, cI, cB, iav, bav, AV.sc1, AV.sc0, Bool.and_true, Bool.and_self, qf]; try rfl)⟩) rfl (by simp only [qax]; exact ⟨rfl, hsc, (by simp only [List.all_cons, List.all_nil, List.all_map, Function.comp_def, cI, cB, iav, bav, AV.sc1, AV.sc0, Bool.and_true, Bool.and_self, qf]; try rfl)⟩) rfl (hpA := [⟨24, 1, [[.os 1 f.length]]⟩, ⟨44, 16, rowsK f (c.parent - 1) (.os 2 (atI f (c.parent - 1)).kids.length)⟩, ⟨3, 1, (atI f (c.parent - 1)).kids.map cI⟩]) (by simp only [List.map_cons, List.map_nil, eN, eK]; rfl) (r' := .tup [.ptr 1 f.length (c.node - 1).toNat 0, .ptr 1 f.length (c.parent - 1).toNat 0]) rfl rfl ?_ | refine yad rfl (ybm (b := ⟨44, 16, R1⟩) rfl rfl rfl (by rw [hR1]; rfl) hR1l.symm) rfl ?_ | refine yad rfl (ya6 (b := ⟨44, 16, R1⟩) tabs rfl rfl rfl rfl rfl rfl rfl (by rw [hR1]; rfl) hR1l.symm) rfl ?_ | refine yad rfl (yaz (i := ti3) (v := iav c.parent) (b := ⟨44, 16, R1⟩) (r := nodeRow nd kk2) tabs rfl rfl rfl rfl rfl (by rw [← qm, hR1]; rfl) hR1l.symm rfl rfl (Nat.le_of_ble_eq_true rfl) gnode2) rfl ?_ | refine ym ?_ | (refine yj rfl rfl rfl (fun hc => ?_) (fun hc => ?_) <;> (fail_if_success (exact absurd hc (by decide))) <;> (try simp only [hsx] at hc) <;> (try first | omega | contradiction | (simp [qa] at hc; done)))) | ((with_reducible show DQ _ _ _ _ _ _); first | refine DQ.stepc (ycd (b := ⟨44, 16, rowsK f (c.parent - 1) (.os 2 (atI f (c.parent - 1)).kids.length)⟩) tabs rfl rfl rfl u153 rfl rfl hR.symm rfl) rfl rfl rfl rfl rfl ?_ | refine DQ.stepc (yb0 (b := ⟨44, 16, rowsK f (c.parent - 1) (.os 2 (atI f (c.parent - 1)).kids.length)⟩) rfl rfl rfl rfl rfl hR.symm) rfl rfl rfl rfl rfl ?_ | refine DQ.stepc (yaw (b := ⟨44, 16, rowsK f (c.parent - 1) (.os 2 (atI f (c.parent - 1)).kids.length)⟩) tabs rfl rfl rfl rfl rfl rfl rfl rfl rfl hR.symm) rfl rfl rfl rfl rfl ?_ | refine DQ.stepc (ya7 (i := ti3) (r := nodeRow nd kk) (b := ⟨44, 16, rowsK f (c.parent - 1) (.os 2 (atI f (c.parent - 1)).kids.length)⟩) (row := (c.node - 1).toNat) tabs rfl rfl rfl rfl rfl rfl hR.symm gnode rfl) rfl rfl rfl rfl rfl ?_ | refine DQ.stepc (ya7 (i := ti41) (r := nodeRow (atI f (c.parent - 1)) (.os 2 (atI f (c.parent - 1)).kids.length)) (b := ⟨44, 16, rowsK f (c.parent - 1) (.os 2 (atI f (c.parent - 1)).kids.length)⟩) (row := (c.parent - 1).toNat) tabs rfl rfl rfl rfl rfl rfl hR.symm gpar rfl) rfl rfl rfl rfl rfl ?_ | refine DQ.stepc (yb4 (b := ⟨3, 1, (atI f (c.parent - 1)).kids.map cI⟩) tabs rfl rfl rfl rfl rfl rfl rfl (by simp)) rfl rfl rfl rfl rfl ?_ | refine DQ.stepc (ycc 3 tabs rfl rfl rfl rfl rfl rfl rfl rfl rfl rfl rfl rfl) rfl rfl rfl rfl rfl ?_ | refine DQ.stepc (ycb 2 3 (r' := .os 2 (insAt (atI f (c.parent - 1)).kids c.index c.node).length) (bA := ⟨3, 1, (insAt (atI f (c.parent - 1)).kids c.index c.node).map cI⟩) rfl rfl rfl rfl rfl (qok (atI f (c.parent - 1)).kids c.index c.node hi0 hi1 (hf.atI (c.parent - 1) (by omega) (by omega)).kids) (fun _ => rfl) rfl rfl rfl (fun _ => (qn _ _ _ _).symm) (fun _ => rfl) rfl (by simp only [List.all_cons, List.all_nil, List.all_map, Function.comp_def, cI, cB, iav, bav, AV.sc1, AV.sc0, Bool.and_true, Bool.and_self, qf]; try rfl) rfl (by simp only [List.all_cons, List.all_nil, List.all_map, Function.comp_def, cI, cB, iav, bav, AV.sc1, AV.sc0, Bool.and_true, Bool.and_self, qf]; try rfl) (fun _ => qn _ _ _ _) (fun _ => rfl)) rfl rfl rfl rfl rfl ?_ | refine DQ.stepc (LS.store (i := ti41) (v := (.os 2 (insAt (atI f (c.parent - 1)).kids c.index c.node).length)) (ty := 44) (sz := 16) (rows := rowsK f (c.parent - 1) (.os 2 (atI f (c.parent - 1)).kids.length)) (r := nodeRow (atI f (c.parent - 1)) (.os 2 (atI f (c.parent - 1)).kids.length)) tabs rfl rfl rfl rfl rfl rfl rfl hR.symm rfl rfl (by decide) gpar) rfl rfl rfl rfl rfl ?_ | refine DQ.stepc (LS.val tabs rfl rfl rfl) rfl rfl rfl rfl rfl ?_ | refine DQ.stepc (yab rfl rfl) rfl rfl rfl rfl rfl ?_ | refine DQ.nilM (by kernel_rfl) ?_ | (refine DQ.gsplitE rfl rfl rfl (fun hc => ?_) (fun hc => ?_) <;> (fail_if_success (exact absurd hc (by decide))) <;> (try simp only [hsx] at hc) <;> (try first | omega | contradiction | (simp [qa] at hc; done)))) | refine yn ?_ | refine yc ?_ | refine ya ?_ | refine yf ?_ | refine yh rfl ?_ | refine yg rfl ?_ | (refine yk rfl (fun hc => ?_) (fun hc => ?_) <;> (try simp only [hsx] at hc) <;> (try first | omega | contradiction | (simp [qa] at hc; done))) | refine yo ?_ | refine yd ?_ | refine yx mixed (by kernel_rfl) ?_))
  all_goals first
    | (exfalso; omega)
    | (refine yam 3 rfl rfl (by rw [← hfin]; rfl) rfl ?_ (by simp [cxG])
       simp only [qax]
       exact ⟨rfl, hscF, (by simp only [List.all_cons, List.all_nil, List.all_map, Function.comp_def, cI, cB, iav, bav, AV.sc1, AV.sc0, Bool.and_true, Bool.and_self, qf]; try rfl)⟩)
def cU (x : Int) : List AV := [.imm (.int .u16 x)]
theorem qjk (l : List Int) (hl : l.length ≤ 1000000000) (hne : l ≠ []) : GenC Tryz.prog 106 [⟨55, 1, []⟩] [.imm (.sl (l.map u16))] (.os 0 l.length) [⟨55, 1, l.map cU⟩] := by
  have e : (l.map u16).map (·.map AV.imm) = l.map cU := by simp [cU, u16, cU]
  have e1 : ((l.map u16).map (·.map AV.imm)).length = l.length := by simp
  refine yaj tabs Tryz.func106 8 [.tmp 2] rfl rfl rfl rfl rfl ?_; intro w0 X γ κ
  (repeat' (first | ((with_reducible show AL _ _ _ _ _); first | refine yad rfl (ybu tabs rfl rfl rfl rfl rfl rfl) rfl ?_ | (refine AL.step tabs rfl ?_; try dsimp only [len, List.nil_append, List.cons_append]) | refine ybo tabs rfl rfl rfl rfl rfl rfl rfl (fun b hb => ?_) | refine yad rfl (yax 0 (ie := ti55) tabs rfl rfl rfl rfl rfl (by decide) rfl rfl rfl (rows2 := (l.map u16).map (·.map AV.imm)) (by simpa using hne) (SrcA.imm (rows := l.map u16) tabs rfl rfl rfl (by simp [u16, ti55])) (by simp [ti55]; omega) (by simp; omega)) rfl ?_ | refine ym ?_) | refine yn ?_ | refine yc ?_ | refine ya ?_ | refine yf ?_ | refine yh rfl ?_ | refine yg rfl ?_ | (refine yk rfl (fun hc => ?_) (fun hc => ?_) <;> (try simp only [hsx] at hc) <;> (try first | omega | contradiction | (simp [qa] at hc; done))) | refine yo ?_ | refine yd ?_))
  · have e : l = [] := by simpa using hb hc
    exact absurd e hne
  · refine yam 1 rfl ?_ ?_ rfl ?_ (by simp [cxG])
    · show AV.os 0 ((l.map u16).map (·.map AV.imm)).length = _
      rw [e1]
    · show _ = [(⟨55, 1, (l.map u16).map (·.map AV.imm)⟩ : Blk)]
      rw [e]
    · exact (by simp only [List.all_cons, List.all_nil, List.all_map, Function.comp_def, cI, cB, cU, iav, bav, AV.sc1, AV.sc0, Bool.and_true, Bool.and_self, qf]; try rfl)
def nodeRowD (n : Node) (k : AV) : List AV := [kav n.kind, sav n.name.sp, sav n.name.pf, sav n.name.lc, sav n.pub, sav n.sys, k, .imm (.sl (n.attrs.map Attr.iv)), iav n.parent, .imm (.sl (n.kids.map i64)), iav n.doc, iav n.host, iav n.shadow, kav n.mode, bav n.manual, bav n.html]
theorem qjl : PureC Tryz.prog 106 [.imm (.sl [])] .nocap := by
  refine yq tabs Tryz.func106 8 [.tmp 2] rfl rfl rfl rfl rfl ?_; intro w0 X
  (repeat' (first | ((with_reducible show AL _ _ _ _ _); first | refine yad rfl (ybu tabs rfl rfl rfl rfl rfl rfl) rfl ?_ | (refine AL.step tabs rfl ?_; try dsimp only [len, List.nil_append, List.cons_append]) | refine ybo tabs rfl rfl rfl rfl rfl rfl rfl (fun b hb => ?_) | refine yad rfl (ybi tabs rfl rfl rfl rfl rfl rfl (SrcA.imm (rows := []) tabs rfl rfl rfl (by simp))) rfl ?_ | refine ym ?_) | refine yn ?_ | refine yc ?_ | refine ya ?_ | refine yf ?_ | refine yh rfl ?_ | refine yg rfl ?_ | (refine yk rfl (fun hc => ?_) (fun hc => ?_) <;> (try simp only [hsx] at hc) <;> (try first | omega | contradiction | (simp [qa] at hc; done))) | refine yo ?_ | refine yd ?_))
  · exact yao rfl fun γ κ a W x hC hr => by cases hr; exact .nocap _
  · exact yao rfl (Fz.im rfl)
theorem cloneD0' {l : List Int} (h : l = []) : PureC Tryz.prog 106 [.imm (.sl (l.map u16))] .nocap := by subst h; exact qjl
theorem qfx (n : Node) (hn : FitN n) (hk : n.data = []) : PureC Tryz.prog 94 [n.av] (.agg (nodeRowD n .nocap)) := by
  refine yq tabs Tryz.func94 16 [.cell 2 44] rfl rfl rfl rfl rfl ?_; intro w0 X
  (repeat' (first | ((with_reducible show AL _ _ _ _ _); first | (refine AL.step tabs rfl ?_; try dsimp only [len, List.nil_append, List.cons_append]) | refine AL.op rfl (yb rfl rfl rfl rfl (cloneD0' hk) rfl) ?_ | refine AL.op rfl (yb rfl rfl rfl rfl (qcz n.attrs hn.attrs) rfl) ?_ | refine AL.op rfl (yb rfl rfl rfl rfl (qe6 n.kids hn.kids) rfl) ?_ | refine ym ?_) | refine yn ?_ | refine yc ?_ | refine ya ?_ | refine yf ?_ | refine yo ?_ | refine yd ?_))
  exact yao rfl (Fz.im rfl)
theorem qgw (n : Node) (hn : FitN n) (hk : n.data ≠ []) : GenC Tryz.prog 94 [⟨55, 1, []⟩] [n.av] (.agg (nodeRowD n (.os 0 n.data.length))) [⟨55, 1, n.data.map cU⟩] := by
  have eR : ∀ m : Nat, (n.data.map cU).map (·.map (ren1 (rho [0] m))) = n.data.map cU := by
    intro m; simp [cU, ren1, ren0]
  refine yaj tabs Tryz.func94 16 [.cell 2 44] rfl rfl rfl rfl rfl ?_; intro w0 X γ κ
  (repeat' (first | ((with_reducible show AL _ _ _ _ _); first | (refine AL.step tabs rfl ?_; try dsimp only [len, List.nil_append, List.cons_append]) | refine AL.op rfl (yb rfl rfl rfl rfl (qe6 n.kids hn.kids) rfl) ?_ | refine AL.op rfl (yb rfl rfl rfl rfl (qcz n.attrs hn.attrs) rfl) ?_ | refine yac [0] 3 rfl rfl rfl rfl rfl (caps := []) rfl (qjk n.data hn.data hk) rfl rfl rfl rfl rfl rfl (by simp only [List.all_cons, List.all_nil, List.all_map, Function.comp_def, cI, cB, cU, iav, bav, AV.sc1, AV.sc0, Bool.and_true, Bool.and_self, qf]; try rfl) rfl (hpA := [⟨55, 1, n.data.map cU⟩]) (by simp only [List.map_cons, List.map_nil, renB, eR]) rfl rfl ?_ | refine ym ?_) | refine yn ?_ | refine yc ?_ | refine ya ?_ | refine yf ?_ | refine yo ?_ | refine yd ?_))
  refine yam 1 rfl rfl rfl rfl ?_ (by simp [cxG])
  exact (by simp only [List.all_cons, List.all_nil, List.all_map, Function.comp_def, cI, cB, cU, iav, bav, AV.sc1, AV.sc0, Bool.and_true, Bool.and_self, qf]; try rfl)
def rowsD (f : List Node) (p : Int) (k : AV) : List (List AV) := (f.map rowS).set p.toNat (nodeRowD (atI f p) k)
theorem qa7 (f : List Node) (p : Int) (k : AV) : (rowsD f p k).length = f.length := by unfold rowsD; simp
theorem qch (f : List Node) (p : Int) (k : AV) (hp : 0 ≤ p) (hp1 : p < f.length) (i : Int) (h0 : 0 ≤ i) (h1 : i < f.length) : atI (rowsD f p k) i = if i = p then nodeRowD (atI f p) k else rowS (atI f i) := by
  unfold rowsD
  rw [qt _ _ _ _ hp (by simpa using hp1) h0, qcs _ _ _ h0 h1]
theorem qd5 {f : List Node} {p : Int} {k : AV} {r : List AV} (h : r ∈ rowsD f p k) : r = nodeRowD (atI f p) k ∨ ∃ n ∈ f, r = rowS n := by
  unfold rowsD at h
  rcases List.mem_or_eq_of_mem_set h with h | h
  · obtain ⟨n, h1, h2⟩ := List.mem_map.1 h
    exact .inr ⟨n, h1, h2.symm⟩
  · exact .inl h
theorem qab (f : List Node) (p : Int) (k : AV) (m : Nat) (h : k.sc1 m = true) : (rowsD f p k).all (fun r => r.all (AV.sc1 m)) = true := by
  rw [List.all_eq_true]
  intro r hr
  rcases qd5 hr with rfl | ⟨n, _, rfl⟩
  · unfold nodeRowD
    simp only [List.all_cons, List.all_nil, h]
    rfl
  · exact qao n m
theorem qjm (f : List Node) (p : Int) (hf : Fit f) (hp : 0 ≤ p) (hp1 : p < f.length) (hk : (atI f p).data ≠ []) : GenC Tryz.prog 70 [⟨44, 16, []⟩, ⟨55, 1, []⟩] [fav f] (.agg [.os 0 f.length]) [⟨44, 16, rowsD f p (.os 1 (atI f p).data.length)⟩, ⟨55, 1, (atI f p).data.map cU⟩] := by
  have hl := hf.len
  have hm : (List.map Node.iv f).length = f.length := List.length_map _
  obtain ⟨T, hT0⟩ : ∃ T, T = rowsD f p (.os 1 (atI f p).data.length) := ⟨_, rfl⟩
  rw [← hT0]
  have hT : T.length = f.length := by rw [hT0, qa7]
  have hat : ∀ i : Int, 0 ≤ i → i < f.length → atI T i = if i = p then nodeRowD (atI f p) (.os 1 (atI f p).data.length) else rowS (atI f i) := fun i h0 h1 => by rw [hT0]; exact qch f p _ hp hp1 i h0 h1
  have hsc : ∀ k, 2 ≤ k → T.all (fun r => r.all (AV.sc1 k)) = true := fun k hk => by
    rw [hT0]; exact qab f p _ k (by simp only [AV.sc1, AV.sc0, Nat.blt_eq]; omega)
  clear hT0
  obtain ⟨K, hK⟩ : ∃ K : Int → List Int, ∀ i, K i = if p < i then (atI f p).data else [] := ⟨fun i => if p < i then (atI f p).data else [], fun _ => rfl⟩
  have eR : ∀ m : Nat, ((atI f p).data.map cU).map (·.map (ren1 (rho [1] m))) = (atI f p).data.map cU := by
    intro m; simp [cU, ren1, ren0]
  have hz : ∀ k, (ti44.zero.all (AV.sc1 k)) = true := fun k => rfl
  refine yaj tabs Tryz.func70 27 [.cell 2 24] rfl rfl rfl rfl rfl ?_; intro w0 X γ κ
  (repeat' (first | ((with_reducible show AL _ _ _ _ _); first | (refine AL.step tabs rfl ?_; try dsimp only [len, List.nil_append, List.cons_append]) | refine yad rfl (ybv 0 tabs rfl rfl rfl rfl rfl rfl rfl rfl rfl (by omega) (by omega) (by omega) rfl (by simp only [ti44]; omega)) rfl ?_ | refine ym ?_ | (refine AL.op rfl (yi rfl rfl rfl rfl rfl (by omega) (by omega)) ?_) | (refine AL.op rfl (ye tabs rfl rfl rfl rfl rfl rfl rfl (fun _ => rfl) (by decide) (by omega) (by omega)) ?_)) | ((with_reducible show DQ _ _ _ _ _ _); first | refine DQ.stepc (LS.val tabs rfl rfl rfl) rfl rfl rfl rfl rfl ?_ | refine DQ.stepc (yab rfl rfl) rfl rfl rfl rfl rfl ?_ | refine DQ.nilM (by kernel_rfl) ?_ | refine DQ.stepc (yaf rfl rfl rfl rfl rfl rfl (by omega) (by omega)) rfl rfl rfl rfl rfl ?_ | refine DQ.stepc (yaa tabs rfl rfl rfl rfl rfl rfl rfl rfl (fun _ => rfl) (by decide) (by omega) (by omega)) rfl rfl rfl rfl rfl ?_) | refine yn ?_ | refine yc ?_ | refine ya ?_ | refine yf ?_ | refine AW.block ?_ | refine yt ?_ | refine yh rfl ?_ | refine yg rfl ?_ | (refine yk rfl (fun hc => ?_) (fun hc => ?_) <;> (try simp only [hsx] at hc) <;> (try first | omega | contradiction | (simp [qa] at hc; done))) | refine yo ?_ | refine yy ?_ | refine yd ?_ | refine yp ?_ | refine yw ?_ | refine yr ?_ | refine InB.off rfl ?_ | refine yz ?_ | refine yu ?_ | refine yx mixed (by kernel_rfl) ?_))
  refine yak (α := Int) (fun i => ⟨[(2, .ptr 3 1 0 0), (3, .ptr 4 1 0 0), (12, .imm (.sl (f.map Node.iv))), (13, iav (List.map Node.iv f).length), (14, iav i)], [⟨44, 16, T.take i.toNat ++ List.replicate (f.length - i.toNat) ti44.zero⟩, ⟨55, 1, (K i).map cU⟩, ⟨24, 1, [[.imm (.sl (f.map Node.iv))]]⟩, ⟨24, 1, [[.nils]]⟩, ⟨24, 1, [[.os 0 f.length]]⟩]⟩) (fun i => 0 ≤ i ∧ i ≤ f.length) (fun i => (f.length - i).toNat) 0 (yae 5 (by rw [hK, if_neg (by omega), ← hm]; rfl) (by repeat' (first | exact trivial | refine ⟨rfl, ?_⟩)) rfl (by simp only [qax]; exact ⟨qbk _ _ _ (hsc _ (by omega)), (by simp only [List.all_cons, List.all_nil, List.all_map, Function.comp_def, cI, cB, cU, iav, bav, AV.sc1, AV.sc0, Bool.and_true, Bool.and_self, qf]; try rfl), rfl, rfl, rfl⟩) (by simp [cxG])) ⟨by omega, by omega⟩ ?_
  intro i ⟨h0, h2⟩
  by_cases hip : i = p
  · subst hip
    have e1 : K i = [] := by rw [hK, if_neg (by omega)]
    have e2 : K (i + 1) = (atI f i).data := by rw [hK, if_pos (by omega)]
    have e3 := hat i hp hp1
    rw [if_pos rfl] at e3
    rw [e1]
    (repeat' (first | ((with_reducible show AL _ _ _ _ _); first | (refine AL.step tabs rfl ?_; try dsimp only [len, List.nil_append, List.cons_append]) | refine ym ?_ | (refine AL.op rfl (yi rfl rfl rfl rfl rfl (by omega) (by omega)) ?_) | (refine AL.op rfl (ye tabs rfl rfl rfl rfl rfl rfl rfl (fun _ => rfl) (by decide) (by omega) (by omega)) ?_)) | ((with_reducible show DQ _ _ _ _ _ _); first | refine DQ.stepc (LS.callG1 1 (r' := .agg (nodeRowD (atI f i) (.os 1 (atI f i).data.length))) rfl rfl rfl rfl rfl (qgw (atI f i) (hf.atI i hp hp1) hk) rfl (fun _ => rfl) rfl rfl rfl (by simp only [List.all_cons, List.all_nil, List.all_map, Function.comp_def, cI, cB, cU, iav, bav, AV.sc1, AV.sc0, Bool.and_true, Bool.and_self, qf]; try rfl) (bA := ⟨55, 1, (atI f i).data.map cU⟩) (fun n => by simp only [renB, eR]) (fun _ => rfl)) rfl rfl rfl rfl rfl ?_ | refine DQ.stepc (yaq (b := ⟨44, 16, T.take i.toNat ++ List.replicate (f.length - i.toNat) ti44.zero⟩) tabs rfl rfl rfl rfl rfl rfl rfl rfl rfl (qap _ _ _ _ hT h0 h2).symm rfl (by omega) (by omega)) rfl rfl rfl rfl rfl ?_ | refine DQ.stepc (LS.store (i := ti44) (v := .agg (nodeRowD (atI f i) (.os 1 (atI f i).data.length))) (ty := 44) (sz := 16) (rows := T.take i.toNat ++ List.replicate (f.length - i.toNat) ti44.zero) tabs rfl rfl rfl rfl rfl rfl rfl (qap _ _ _ _ hT h0 h2).symm rfl rfl (by decide) (qd3 _ _ _ _ hT h0 (by omega))) rfl rfl rfl rfl rfl ?_ | refine DQ.stepc (LS.val tabs rfl rfl rfl) rfl rfl rfl rfl rfl ?_ | refine DQ.stepc (yab rfl rfl) rfl rfl rfl rfl rfl ?_ | refine DQ.nilM (by kernel_rfl) ?_ | refine DQ.stepc (yaf rfl rfl rfl rfl rfl rfl (by omega) (by omega)) rfl rfl rfl rfl rfl ?_ | refine DQ.stepc (yaa tabs rfl rfl rfl rfl rfl rfl rfl rfl (fun _ => rfl) (by decide) (by omega) (by omega)) rfl rfl rfl rfl rfl ?_) | refine yn ?_ | refine yc ?_ | refine ya ?_ | refine yf ?_ | refine AW.block ?_ | refine yt ?_ | refine yh rfl ?_ | refine yg rfl ?_ | (refine yk rfl (fun hc => ?_) (fun hc => ?_) <;> (try simp only [hsx] at hc) <;> (try first | omega | contradiction | (simp [qa] at hc; done))) | refine yo ?_ | refine yy ?_ | refine yd ?_ | refine yp ?_ | refine yw ?_ | refine yr ?_ | refine InB.off rfl ?_ | refine yz ?_ | refine yu ?_ | refine yx mixed (by kernel_rfl) ?_))
    refine yag (i + 1) (yae 5 (by rw [← take_set T ti44.zero f.length i hT h0 (by assumption), e2, e3]; rfl) (by repeat' (first | exact trivial | refine ⟨rfl, ?_⟩)) rfl (by simp only [qax]; exact ⟨qbk _ _ _ (hsc _ (by omega)), (by simp only [List.all_cons, List.all_nil, List.all_map, Function.comp_def, cI, cB, cU, iav, bav, AV.sc1, AV.sc0, Bool.and_true, Bool.and_self, qf]; try rfl), rfl, rfl, rfl⟩) (by simp [cxG])) ⟨by omega, by omega⟩ (by omega)
  · have e2 : i < f.length → K (i + 1) = K i := fun hi => by
      rw [hK, hK]
      by_cases h : p < i
      · rw [if_pos (by omega), if_pos h]
      · rw [if_neg (by omega), if_neg h]
    have e3 : i < f.length → atI T i = rowS (atI f i) := fun hi => by rw [hat i h0 hi, if_neg hip]
    (repeat' (first | ((with_reducible show AL _ _ _ _ _); first | (refine AL.step tabs rfl ?_; try dsimp only [len, List.nil_append, List.cons_append]) | refine ym ?_ | (refine AL.op rfl (yi rfl rfl rfl rfl rfl (by omega) (by omega)) ?_) | (refine AL.op rfl (ye tabs rfl rfl rfl rfl rfl rfl rfl (fun _ => rfl) (by decide) (by omega) (by omega)) ?_)) | ((with_reducible show DQ _ _ _ _ _ _); first | refine DQ.stepc (yai rfl rfl rfl rfl rfl (qbf (atI f i) (hf.atI i h0 (by omega))) rfl) rfl rfl rfl rfl rfl ?_ | refine DQ.stepc (yaq (b := ⟨44, 16, T.take i.toNat ++ List.replicate (f.length - i.toNat) ti44.zero⟩) tabs rfl rfl rfl rfl rfl rfl rfl rfl rfl (qap _ _ _ _ hT h0 h2).symm rfl (by omega) (by omega)) rfl rfl rfl rfl rfl ?_ | refine DQ.stepc (LS.store (i := ti44) (v := .agg (rowS (atI f i))) (ty := 44) (sz := 16) (rows := T.take i.toNat ++ List.replicate (f.length - i.toNat) ti44.zero) tabs rfl rfl rfl rfl rfl rfl rfl (qap _ _ _ _ hT h0 h2).symm rfl rfl (by decide) (qd3 _ _ _ _ hT h0 (by omega))) rfl rfl rfl rfl rfl ?_ | refine DQ.stepc (LS.val tabs rfl rfl rfl) rfl rfl rfl rfl rfl ?_ | refine DQ.stepc (yab rfl rfl) rfl rfl rfl rfl rfl ?_ | refine DQ.nilM (by kernel_rfl) ?_ | refine DQ.stepc (yaf rfl rfl rfl rfl rfl rfl (by omega) (by omega)) rfl rfl rfl rfl rfl ?_ | refine DQ.stepc (yaa tabs rfl rfl rfl rfl rfl rfl rfl rfl (fun _ => rfl) (by decide) (by omega) (by omega)) rfl rfl rfl rfl rfl ?_) | refine yn ?_ | refine yc ?_ | refine ya ?_ | refine yf ?_ | refine AW.block ?_ | refine yt ?_ | refine yh rfl ?_ | refine yg rfl ?_ | (refine yk rfl (fun hc => ?_) (fun hc => ?_) <;> (try simp only [hsx] at hc) <;> (try first | omega | contradiction | (simp [qa] at hc; done))) | refine yo ?_ | refine yy ?_ | refine yd ?_ | refine yp ?_ | refine yw ?_ | refine yr ?_ | refine InB.off rfl ?_ | refine yz ?_ | refine yu ?_ | refine yx mixed (by kernel_rfl) ?_))
    · refine yag (i + 1) (yae 5 (by rw [← take_set T ti44.zero f.length i hT h0 (by assumption), e2 (by assumption), e3 (by assumption)]; rfl) (by repeat' (first | exact trivial | refine ⟨rfl, ?_⟩)) rfl (by simp only [qax]; exact ⟨qbk _ _ _ (hsc _ (by omega)), (by simp only [List.all_cons, List.all_nil, List.all_map, Function.comp_def, cI, cB, cU, iav, bav, AV.sc1, AV.sc0, Bool.and_true, Bool.and_self, qf]; try rfl), rfl, rfl, rfl⟩) (by simp [cxG])) ⟨by omega, by omega⟩ (by omega)
    · have e : T.take i.toNat ++ List.replicate (f.length - i.toNat) ti44.zero = T := by
        rw [qq (by omega), show f.length - i.toNat = 0 by omega]; simp
      have e4 : K i = (atI f p).data := by rw [hK, if_pos (by omega)]
      refine yam 2 rfl rfl (by rw [e, e4]; rfl) rfl ?_ (by simp [cxG])
      simp only [qax]
      exact ⟨hsc _ (by omega), (by simp only [List.all_cons, List.all_nil, List.all_map, Function.comp_def, cI, cB, cU, iav, bav, AV.sc1, AV.sc0, Bool.and_true, Bool.and_self, qf]; try rfl)⟩
end Go.Proofs.YtmhejcnaanocpaaGreat.A
