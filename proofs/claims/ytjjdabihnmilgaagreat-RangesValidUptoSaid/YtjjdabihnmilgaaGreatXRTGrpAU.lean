/- Contracts: forest.done of a removal. -/
import Derived.Test.YtjjdabihnmilgaaGreatXRTGrpAT
import Derived.Test.YtjjdabihnmilgaaGreatXRTGrpAP
import Derived.Test.YtjjdabihnmilgaaGreatXRTGrpAK
namespace Go.Proofs.YtjjdabihnmilgaaGreat.A
open Go.RowKit
set_option linter.unusedVariables false
set_option linter.unusedSimpArgs false
set_option maxRecDepth 100000
set_option maxHeartbeats 4000000
theorem remFM_kids (f : List Node) (node parent idx : Int) (h1 : 1 ≤ node) (h2 : node ≤ f.length) (h3 : 1 ≤ parent) (h4 : parent ≤ f.length) : (atI (remFM f node parent idx) (parent - 1)).kids = cutL (atI f (parent - 1)).kids idx := by
  unfold remFM
  rw [atI_upd _ _ _ (by omega) (by rw [upd_len]; omega) _ (by omega)]
  by_cases e : parent - 1 = node - 1
  · rw [if_pos e, ← e, atI_upd _ _ _ (by omega) (by omega) _ (by omega), if_pos rfl]
  · rw [if_neg e, atI_upd _ _ _ (by omega) (by omega) _ (by omega), if_pos rfl]
theorem remFM_fit (f : List Node) (c : Change) (hf : Fit f) (h1 : 1 ≤ c.node) (h2 : c.node ≤ f.length) (h3 : 1 ≤ c.parent) (h4 : c.parent ≤ f.length) (hi0 : 0 ≤ c.index) (hi1 : c.index < (atI f (c.parent - 1)).kids.length) : Fit (remFM f c.node c.parent c.index) := by
  have e1 : Fit (updAt f (c.parent - 1) { atI f (c.parent - 1) with kids := cutL (atI f (c.parent - 1)).kids c.index }) := by
    have := hf.atI (c.parent - 1) (by omega) (by omega)
    have hk := this.kids
    exact upd_fit hf ⟨this.data, this.attrs, by show (cutL _ _).length ≤ _; rw [cutL_len _ _ hi0 hi1]; omega⟩
  unfold remFM
  have := e1.atI (c.node - 1) (by omega) (by rw [upd_len]; omega)
  exact upd_fit e1 ⟨this.data, this.attrs, this.kids⟩
theorem fzKs {C : Cx} {s : St} {f : List Node} {p : Int} {id kid m : Nat} {all : List Int} (hp : 0 ≤ p) (hp1 : p < f.length) (hm : (atI f p).kids = all.take m) (hb : nth s.hp id = some ⟨81, 16, rowsK f p (.sub kid all.length 0 m)⟩) (hk : nth s.hp kid = some ⟨3, 1, all.map cI⟩) : Fz C s (.agg [.os id f.length]) (fav f) := by
  refine Fz.agg (.cons (Fz.osN (b := ⟨81, 16, rowsK f p (.sub kid all.length 0 m)⟩) hb (rowsK_len _ _ _).symm (by simp [rowsK_len]) (by
    intro r hr
    obtain ⟨n, _, rfl⟩ := List.mem_map.1 hr
    rfl) (all2_flat ?_)) .nil)
  have h1 : All2 (All2 (FzI C s)) (f.map rowS) (f.map Node.iv) := all2_map_both (fun n => fzRow (FzI.imm _)) f
  have hs := Fz.sub (C := C) (s := s) (id := kid) (ver := all.length) (off := 0) (n := m) (b := ⟨3, 1, all.map cI⟩) hk (by simp) (all := all.map i64) (by rw [List.map_map]; rfl)
  rw [List.drop_zero, ← List.map_take, ← hm] at hs
  have h2 : All2 (FzI C s) (nodeRow (atI f p) (.sub kid all.length 0 m)) (atI f p).iv := fzRow (FzI.of hs)
  have h3 := h1.set h2 p.toNat
  have e : (f.map Node.iv).set p.toNat (atI f p).iv = f.map Node.iv := by
    have := set_same (f.map Node.iv) p hp (by simpa using hp1)
    rw [atI_map _ _ _ hp hp1] at this
    exact this
  rw [e] at h3
  exact h3
noncomputable def doneX (f : List Node) (c : Change) : List Node × Int := if dec (rightP (remFM f c.node c.parent c.index)) = true then (remFM f c.node c.parent c.index, 0) else ([], 2)
theorem doneRm_c (f : List Node) (c : Change) (hf : Fit f) (h0 : 0 < f.length) (hck : c.kind = 3) (hcp : plainLn c = c) (h1 : 1 ≤ c.node) (h2 : c.node ≤ f.length) (h3 : 1 ≤ c.parent) (h4 : c.parent ≤ f.length) (hi0 : 0 ≤ c.index) (hi1 : c.index < (atI f (c.parent - 1)).kids.length) (hkid : atI (atI f (c.parent - 1)).kids c.index = c.node) : PureC Tryz.prog 45 [fav f, c.av] (.tup [fav (doneX f c).1, iav (doneX f c).2]) := by
  have hk : (atI f (c.parent - 1)).kids ≠ [] := fun e => by rw [e] at hi1; simp at hi1; omega
  have hsame : PureC Tryz.prog 92 [c.av, (plainLn c).av] (bav true) := by
    rw [hcp]
    exact sameSelf_c c (by rw [← hcp]; simp [plainLn, c0]) (by rw [← hcp]; exact fit0) (by rw [← hcp]; simp [plainLn, c0]) (by rw [← hcp]; simp [plainLn, c0]) (by omega) (by omega)
  have hins := remove_c f c hf h1 h2 h3 h4 hi0 hi1 hkid
  have hfst : ∀ j : Nat, j < 2 → stepKeys[j]? ≠ some c.kind := by
    intro j hj
    rcases (show j = 0 ∨ j = 1 by omega) with rfl | rfl <;> (rw [hck]; decide)
  have hil := remFM_len f c.node c.parent c.index
  have hki : (atI (remFM f c.node c.parent c.index) (c.parent - 1)).kids = cutL (atI f (c.parent - 1)).kids c.index := remFM_kids f c.node c.parent c.index h1 h2 h3 h4
  have hfi := remFM_fit f c hf h1 h2 h3 h4 hi0 hi1
  have fzI_ : ∀ {C : Cx} {s : St}, nth s.hp 0 = some ⟨81, 16, rowsK (remFM f c.node c.parent c.index) (c.parent - 1) (.sub 1 (delL (atI f (c.parent - 1)).kids c.index.toNat).length 0 ((atI f (c.parent - 1)).kids.length - 1))⟩ → nth s.hp 1 = some ⟨3, 1, (delL (atI f (c.parent - 1)).kids c.index.toNat).map cI⟩ → Fz C s (.agg [.os 0 f.length]) (fav (remFM f c.node c.parent c.index)) := by
    intro C s g1 g2
    have := fzKs (C := C) (s := s) (f := remFM f c.node c.parent c.index) (p := c.parent - 1) (id := 0) (kid := 1) (m := (atI f (c.parent - 1)).kids.length - 1) (all := delL (atI f (c.parent - 1)).kids c.index.toNat) (by omega) (by omega) (by rw [hki, cutL_del _ _ hi0 hi1]) g1 g2
    rw [hil] at this
    exact this
  refine PureC.mk tabs Tryz.func45 51 [.cell 4 24, .tmp 5] rfl rfl rfl rfl rfl ?_; intro w0 X
  refine AW.reserve 81 16 rfl ?_
  refine AW.reserve 3 1 rfl ?_
  refine AW.reserve 140 4 rfl ?_
  (repeat' (first | ((with_reducible show AL _ _ _ _ _); first | (refine AL.step tabs rfl ?_; try dsimp only [len, List.nil_append, List.cons_append]) | refine AL.callG [0, 1] 6 rfl rfl rfl rfl rfl (caps := []) rfl (copyOfK_c f (c.parent - 1) hf (by omega) (by omega) hk) rfl rfl rfl rfl rfl rfl (by simp only [List.all_cons, List.all_nil, Bool.and_true, Bool.and_eq_true]; exact ⟨rowsK_sc _ _ _ _ rfl, (by simp only [List.all_cons, List.all_nil, List.all_map, Function.comp_def, cI, cB, iav, bav, AV.sc1, AV.sc0, Bool.and_true, Bool.and_self, all_tt]; try rfl)⟩) rfl (hpA := [⟨81, 16, rowsK f (c.parent - 1) (.os 1 (atI f (c.parent - 1)).kids.length)⟩, ⟨3, 1, (atI f (c.parent - 1)).kids.map cI⟩]) (by simp only [List.map_cons, List.map_nil, rowsK_ren, renB_cI]; rfl) (r' := .agg [.os 0 f.length]) rfl rfl ?_ | refine AL.callG [6, 0, 1] 7 rfl rfl rfl rfl rfl (caps := []) rfl hins rfl (by simp only [List.map_cons, List.map_nil, rowsK_ren, renB_cI]; rfl) rfl rfl (by simp only [List.all_cons, List.all_nil, Bool.and_true, Bool.and_eq_true]; exact ⟨rfl, rowsK_sc _ _ _ _ rfl, (by simp only [List.all_cons, List.all_nil, List.all_map, Function.comp_def, cI, cB, iav, bav, AV.sc1, AV.sc0, Bool.and_true, Bool.and_self, all_tt]; try rfl)⟩) rfl (by simp only [List.all_cons, List.all_nil, Bool.and_true, Bool.and_eq_true]; exact ⟨rfl, rowsK_sc _ _ _ _ rfl, (by simp only [List.all_cons, List.all_nil, List.all_map, Function.comp_def, cI, cB, iav, bav, AV.sc1, AV.sc0, Bool.and_true, Bool.and_self, all_tt]; try rfl)⟩) rfl (hpA := [⟨24, 1, [[.os 0 f.length]]⟩, ⟨81, 16, rowsK (remFM f c.node c.parent c.index) (c.parent - 1) (.sub 1 (delL (atI f (c.parent - 1)).kids c.index.toNat).length 0 ((atI f (c.parent - 1)).kids.length - 1))⟩, ⟨3, 1, (delL (atI f (c.parent - 1)).kids c.index.toNat).map cI⟩]) (by simp only [List.map_cons, List.map_nil, rowsK_ren, renB_cI]; rfl) (r' := bav true) rfl rfl ?_ | refine AL.op rfl (OpOK.callsc rfl rfl rfl rfl (.cons (fzI_ rfl rfl) .nil) (right_c (remFM f c.node c.parent c.index) hfi) rfl) ?_ | refine AL.nil ?_ | (refine AL.gsplitE rfl rfl rfl (fun hc => ?_) (fun hc => ?_) <;> (fail_if_success (exact absurd hc (by decide))) <;> (try simp only [hsx] at hc) <;> (try first | (exfalso; omega) | contradiction | (exfalso; simp [dec_eq] at hc; done)))) | ((with_reducible show DQ _ _ _ _ _ _); first | refine DQ.stepc (LS.call rfl rfl rfl rfl rfl steps_c rfl) rfl rfl rfl rfl rfl ?_ | refine DQ.stepc (LS.lookOk (kf := k8) (q := c.kind) (xs := stepKeys) (i := 2) (v := [.fn 145, .fn 148, .bool false, .any]) key71 Tryz.underlying142 zero140 rfl rfl rfl rfl rfl rfl (by rw [hck]; rfl) hfst rfl) rfl rfl rfl rfl rfl ?_ | refine DQ.stepc (LS.alloc 2 tabs rfl rfl rfl rfl rfl rfl) rfl rfl rfl rfl rfl ?_ | refine DQ.stepc (LS.store (i := ti140) (v := .agg [.imm (.fn 145), .imm (.fn 148), .imm (.bool false), .imm .any]) (ty := 140) (sz := 4) (rows := [ti140.zero]) (r := ti140.zero) tabs rfl rfl rfl rfl rfl rfl rfl rfl rfl rfl (Nat.le_of_ble_eq_true rfl) rfl) rfl rfl rfl rfl rfl ?_ | refine DQ.stepc (LS.call rfl rfl rfl rfl rfl (plainLink_c c) rfl) rfl rfl rfl rfl rfl ?_ | refine DQ.stepc (LS.call rfl rfl rfl rfl rfl hsame rfl) rfl rfl rfl rfl rfl ?_ | refine DQ.stepc (LS.val tabs rfl rfl rfl) rfl rfl rfl rfl rfl ?_ | refine DQ.stepc (LS.skip rfl rfl) rfl rfl rfl rfl rfl ?_ | refine DQ.nilM (by kernel_rfl) ?_ | (refine DQ.gsplitE rfl rfl rfl (fun hc => ?_) (fun hc => ?_) <;> (fail_if_success (exact absurd hc (by decide))) <;> (try simp only [hsx] at hc) <;> (try first | (exfalso; omega) | contradiction | (exfalso; simp [dec_eq] at hc; done)))) | refine AW.seq ?_ | refine AW.region ?_ | refine Then.norm ?_ | refine AW.skip ?_ | refine AW.condT rfl ?_ | refine AW.condF rfl ?_ | (refine AW.cond rfl (fun hc => ?_) (fun hc => ?_) <;> (try simp only [hsx] at hc) <;> (try first | (exfalso; omega) | contradiction | (exfalso; simp [dec_eq] at hc; done))) | refine AW.ret ?_ | refine Then.ret ?_ | refine AW.drawW mixed (by kernel_rfl) ?_))
  all_goals first
    | (rw [show doneX f c = ([], 2) by unfold doneX; rw [if_neg (by rw [dec_true]; exact hc)]]; exact RQ.fin rfl rfl rfl)
    | (rw [show doneX f c = (remFM f c.node c.parent c.index, 0) by unfold doneX; rw [if_pos (by rw [dec_true]; exact hc)]]; exact RQ.ret rfl (Fz.tup (.cons (fzI_ rfl rfl) (.cons (Fz.im rfl) .nil))))
end Go.Proofs.YtjjdabihnmilgaaGreat.A
namespace Go.Proofs.YtjjdabihnmilgaaGreat.A
open Go.RowKit
set_option linter.unusedVariables false
set_option linter.unusedSimpArgs false
set_option maxRecDepth 100000
set_option maxHeartbeats 4000000
/-- What a point becomes by a removal. -/
noncomputable def movR (f : List Node) (c : Change) (b : Bnd) : Bnd := if dec (c.node ∈ ups f b.n) = true then ⟨c.parent, c.index⟩ else if b.n = c.parent ∧ c.index < b.o then ⟨b.n, b.o - 1⟩ else b
theorem moves2_c (f : List Node) (c : Change) (b : Bnd) (hf : Fit f) (hr : rightP f) (h0 : -1000 ≤ b.o) (h1 : b.o ≤ 1000000000) : GenC Tryz.prog 95 [⟨24, 1, [[.imm (.sl (f.map Node.iv))]]⟩, ⟨83, 36, [rowC c]⟩] [b.av, .ptr 0 1 0 0, .ptr 1 1 0 0] (movR f c b).av [⟨24, 1, [[.imm (.sl (f.map Node.iv))]]⟩, ⟨83, 36, [rowC c]⟩] := by
  have c1 := holds_c f c.node b.n hf hr
  unfold movR
  generalize dec (c.node ∈ ups f b.n) = v at *
  obtain ⟨n, o⟩ := b
  simp only at *
  refine GenC.mk tabs Tryz.func95 35 [.cell 4 39] rfl rfl rfl rfl rfl ?_; intro w0 X γ κ
  (repeat' (first | ((with_reducible show AL _ _ _ _ _); first | (refine AL.step tabs rfl ?_; try dsimp only [len, List.nil_append, List.cons_append]) | refine AL.op rfl (OpOK.call rfl rfl rfl rfl c1 rfl) ?_ | refine AL.nil ?_ | (refine AL.gsplitE rfl rfl rfl (fun hc => ?_) (fun hc => ?_) <;> (fail_if_success (exact absurd hc (by decide))) <;> (try simp only [hsx] at hc) <;> (try first | (exfalso; omega) | contradiction | (exfalso; simp [dec_eq] at hc; done))) | (refine AL.op rfl (OpOK.ari64 rfl rfl rfl rfl rfl (by omega) (by omega)) ?_)) | (exfalso; omega) | refine AW.seq ?_ | refine AW.region ?_ | refine Then.norm ?_ | refine AW.skip ?_ | refine AW.block ?_ | refine InB.norm ?_ | refine AW.condT rfl ?_ | refine AW.condF rfl ?_ | (refine AW.cond rfl (fun hc => ?_) (fun hc => ?_) <;> (try simp only [hsx] at hc) <;> (try first | (exfalso; omega) | contradiction | (exfalso; simp [dec_eq] at hc; done))) | refine AW.ret ?_ | refine AW.exit ?_ | refine Then.ret ?_ | refine Then.exit ?_ | refine InB.ret ?_ | refine InB.here ?_ | refine InB.off rfl ?_))
  all_goals first
    | (rw [if_pos hc]; exact RG.ret 2 rfl rfl rfl rfl rfl (by simp [cxG]))
    | (rename_i hv _; rw [if_neg (by rw [hv]; simp), if_pos ⟨by omega, by omega⟩]; exact RG.ret 2 rfl rfl rfl rfl rfl (by simp [cxG]))
    | (rename_i hv _; rw [if_neg (by rw [hv]; simp), if_neg (by omega)]; exact RG.ret 2 rfl rfl rfl rfl rfl (by simp [cxG]))
    | (rename_i hv; rw [if_neg (by rw [hv]; simp), if_neg (by omega)]; exact RG.ret 2 rfl rfl rfl rfl rfl (by simp [cxG]))
    | (rw [if_pos rfl]; exact RG.ret 2 rfl rfl rfl rfl rfl (by simp [cxG]))
    | (trace_state; sorry)
theorem moves_c (f : List Node) (c : Change) (hk : c.kind = 3) : GenC Tryz.prog 49 [] [fav f, c.av] (.fn 95 [.ptr 0 1 0 0, .ptr 1 1 0 0]) [⟨24, 1, [[.imm (.sl (f.map Node.iv))]]⟩, ⟨83, 36, [rowC c]⟩] := by
  refine GenC.mk tabs Tryz.func49 40 [.tmp 4] rfl rfl rfl rfl rfl ?_; intro w0 X γ κ
  (repeat' (first | ((with_reducible show AL _ _ _ _ _); first | (refine AL.step tabs rfl ?_; try dsimp only [len, List.nil_append, List.cons_append]) | refine AL.nil ?_ | (refine AL.gsplitE rfl rfl rfl (fun hc => ?_) (fun hc => ?_) <;> (fail_if_success (exact absurd hc (by decide))) <;> (try simp only [hsx] at hc) <;> (try first | (exfalso; omega) | contradiction | (exfalso; simp [dec_eq] at hc; done)))) | (exfalso; omega) | refine AW.seq ?_ | refine AW.region ?_ | refine Then.norm ?_ | refine AW.skip ?_ | refine AW.block ?_ | refine InB.norm ?_ | refine AW.condT rfl ?_ | refine AW.condF rfl ?_ | (refine AW.cond rfl (fun hc => ?_) (fun hc => ?_) <;> (try simp only [hsx] at hc) <;> (try first | (exfalso; omega) | contradiction | (exfalso; simp [dec_eq] at hc; done))) | refine AW.ret ?_ | refine AW.exit ?_ | refine Then.ret ?_ | refine Then.exit ?_ | refine InB.ret ?_ | refine InB.here ?_ | refine InB.off rfl ?_))
  all_goals first
    | exact RG.ret 2 rfl rfl rfl rfl rfl (by simp [cxG])
    | (trace_state; sorry)
def cR (r : Rng) : List AV := r.iv.map .imm
theorem cR_sc (l : List Rng) (k : Nat) : (l.map cR).all (fun r => r.all (AV.sc1 k)) = true := by
  rw [List.all_map, List.all_eq_true]
  exact fun _ _ => rfl
theorem cloneR_c (l : List Rng) (hl : l.length ≤ 1000000) (hne : l ≠ []) : GenC Tryz.prog 48 [⟨41, 4, []⟩] [.imm (.sl (l.map Rng.iv))] (.os 0 l.length) [⟨41, 4, l.map cR⟩] := by
  have e : (l.map Rng.iv).map (·.map AV.imm) = l.map cR := by simp [cR]
  have e1 : ((l.map Rng.iv).map (·.map AV.imm)).length = l.length := by simp
  refine GenC.mk tabs Tryz.func48 8 [.tmp 2] rfl rfl rfl rfl rfl ?_; intro w0 X γ κ
  (repeat' (first | ((with_reducible show AL _ _ _ _ _); first | refine AL.ope rfl (OpOK.lit0 tabs rfl rfl rfl rfl rfl rfl) rfl ?_ | (refine AL.step tabs rfl ?_; try dsimp only [len, List.nil_append, List.cons_append]) | refine AL.slnil tabs rfl rfl rfl rfl rfl rfl rfl (fun b hb => ?_) | refine AL.ope rfl (OpOK.append_nocap_at 0 (ie := ti41) tabs rfl rfl rfl rfl rfl (by decide) rfl rfl rfl (rows2 := (l.map Rng.iv).map (·.map AV.imm)) (by simpa using hne) (SrcA.imm (rows := l.map Rng.iv) tabs rfl rfl rfl (by simp [Rng.iv, ti41])) (by simp [ti41]; omega) (by simp; omega)) rfl ?_ | refine AL.nil ?_) | refine AW.seq ?_ | refine AW.region ?_ | refine Then.norm ?_ | refine AW.skip ?_ | refine AW.condT rfl ?_ | refine AW.condF rfl ?_ | (refine AW.cond rfl (fun hc => ?_) (fun hc => ?_) <;> (try simp only [hsx] at hc) <;> (try first | (exfalso; omega) | contradiction | (exfalso; simp [dec_eq] at hc; done))) | refine AW.ret ?_ | refine Then.ret ?_))
  · have e : l = [] := by simpa using hb hc
    exact absurd e hne
  · refine RG.ret 1 rfl ?_ ?_ rfl ?_ (by simp [cxG])
    · show AV.os 0 ((l.map Rng.iv).map (·.map AV.imm)).length = _
      rw [e1]
    · show _ = [(⟨41, 4, (l.map Rng.iv).map (·.map AV.imm)⟩ : Blk)]
      rw [e]
    · rw [List.all_cons, List.all_nil, Bool.and_true]
      exact cR_sc l 1
end Go.Proofs.YtjjdabihnmilgaaGreat.A
namespace Go.Proofs.YtjjdabihnmilgaaGreat.A
open Go.RowKit
set_option linter.unusedVariables false
set_option linter.unusedSimpArgs false
set_option maxRecDepth 100000
set_option maxHeartbeats 4000000
noncomputable def movG (f : List Node) (c : Change) (r : Rng) : Rng := ⟨movR f c r.s, movR f c r.e⟩
theorem cR_reads (l : List Rng) : l.map cR = (l.map Rng.iv).map (·.map AV.imm) := by simp [cR]
theorem renB_cR (ρ : Nat → Nat) (ty sz : Nat) (l : List Rng) : renB ρ ⟨ty, sz, l.map cR⟩ = ⟨ty, sz, l.map cR⟩ := by
  simp [renB, cR, Rng.iv, ren1, ren0]
def partM (g : Rng → Rng) (l : List Rng) (i : Nat) : List Rng := (l.map g).take i ++ l.drop i
theorem partM_len (g : Rng → Rng) (l : List Rng) (i : Nat) (h : i ≤ l.length) : (partM g l i).length = l.length := by
  unfold partM
  simp only [List.length_append, List.length_take, List.length_map, List.length_drop]; omega
theorem partM_end (g : Rng → Rng) (l : List Rng) (i : Nat) (h : l.length ≤ i) : partM g l i = l.map g := by
  unfold partM
  rw [List.take_of_length_le (by simpa using h), List.drop_eq_nil_of_le h, List.append_nil]
theorem partM_at (g : Rng → Rng) (l : List Rng) (i : Int) (h0 : 0 ≤ i) (h1 : i < l.length) : atI (partM g l i.toNat) i = atI l i := by
  have hl : ((l.map g).take i.toNat).length = i.toNat := by rw [List.length_take, List.length_map]; omega
  unfold atI partM
  rw [List.getD_eq_getElem?_getD, List.getD_eq_getElem?_getD, List.getElem?_append_right (by omega), hl, Nat.sub_self, List.getElem?_drop, Nat.add_zero]
theorem partM_set (g : Rng → Rng) (l : List Rng) (i : Int) (h0 : 0 ≤ i) (h1 : i < l.length) : (partM g l i.toNat).set i.toNat (g (atI l i)) = partM g l (i + 1).toNat := by
  have hl : ((l.map g).take i.toNat).length = i.toNat := by rw [List.length_take, List.length_map]; omega
  unfold partM
  rw [take_next h0 (by simpa using h1), atI_map _ _ _ h0 h1]
  rw [List.set_append_right _ _ (by omega), hl, Nat.sub_self]
  rw [show (i + 1).toNat = i.toNat + 1 by omega]
  rw [List.drop_eq_getElem_cons (show i.toNat < l.length by omega), List.set_cons_zero]
  simp
def okO (o : Int) : Prop := -1000 ≤ o ∧ o ≤ 1000000000
theorem fold1_c (f g : List Node) (c : Change) (l : List Rng) (hf : Fit f) (hr : rightP f) (hne : l ≠ []) (hl : l.length ≤ 4096) (hk : c.kind = 3) (hG : ∀ r ∈ l, faultG f [r] [] = 0)
    (hAll : PureC Tryz.prog 12 [fav f, .imm (.sl ([c].map Change.iv))] (.tup [fav g, iav 1, iav 0])) (hApp : PureC Tryz.prog 50 [fav f, c.av] (.tup [fav g, iav 0])) :
    PureC Tryz.prog 15 [fav f, .imm (.sl (l.map Rng.iv)), .imm (.sl ([c].map Change.iv))] (.tup [.imm (.sl ((l.map (movG f c)).map Rng.iv)), iav 0]) := by
  have hlm : (l.map Rng.iv).length = l.length := List.length_map _
  have hO : ∀ r ∈ l, okO r.s.o ∧ okO r.e.o := fun r hr => by
    obtain ⟨_, h2, _⟩ := faultG_zero.1 (hG r hr)
    have h3 := h2 r (by simp)
    have e1 := lenP_small hf r.s.n
    have e2 := lenP_small hf r.e.n
    have a1 := h3.1.2
    have a2 := h3.2.1.2
    exact ⟨⟨by omega, by omega⟩, ⟨by omega, by omega⟩⟩
  have c1 := fault_c f [] hf (by simp)
  rw [faultR_mono hr (by simp)] at c1
  have c2 : ∀ i : Int, 0 ≤ i → i < l.length → PureC Tryz.prog 47 [fav f, .imm (.sl ([atI l i].map Rng.iv)), .imm (.sl (([] : List Int).map i64))] (iav 0) := fun i h0 h1 => by
    have := rfault_c f [atI l i] [] hf (by simp) (by simp)
    rw [hG _ (atI_mem h0 h1)] at this
    exact this
  refine PureC.mk tabs Tryz.func15 90 [.tmp 6, .tmp 7] rfl rfl rfl rfl rfl ?_; intro w0 X
  refine AW.reserve 41 4 rfl ?_
  (repeat' (first | ((with_reducible show AL _ _ _ _ _); first | (refine AL.step tabs rfl ?_; try dsimp only [len, List.nil_append, List.cons_append]) | refine AL.op rfl (OpOK.callfz rfl rfl rfl rfl c1 rfl rfl) ?_ | refine AL.nil ?_ | (refine AL.gsplitE rfl rfl rfl (fun hc => ?_) (fun hc => ?_) <;> (fail_if_success (exact absurd hc (by decide))) <;> (try simp only [hsx] at hc) <;> (try first | (exfalso; omega) | contradiction | (exfalso; simp [dec_eq] at hc; done))) | (refine AL.op rfl (OpOK.ari64 rfl rfl rfl rfl rfl (by omega) (by omega)) ?_) | (refine AL.op rfl (OpOK.index_map tabs rfl rfl rfl rfl rfl rfl rfl (fun _ => rfl) (by decide) (by omega) (by omega)) ?_)) | ((with_reducible show DQ _ _ _ _ _ _); first | refine DQ.stepc (LS.val tabs rfl rfl rfl) rfl rfl rfl rfl rfl ?_ | refine DQ.stepc (LS.skip rfl rfl) rfl rfl rfl rfl rfl ?_ | refine DQ.nilM (by kernel_rfl) ?_ | refine DQ.stepc (LS.ari64 rfl rfl rfl rfl rfl rfl (by omega) (by omega)) rfl rfl rfl rfl rfl ?_ | refine DQ.stepc (LS.index_map tabs rfl rfl rfl rfl rfl rfl rfl rfl (fun _ => rfl) (by decide) (by omega) (by omega)) rfl rfl rfl rfl rfl ?_ | (refine DQ.gsplitE rfl rfl rfl (fun hc => ?_) (fun hc => ?_) <;> (fail_if_success (exact absurd hc (by decide))) <;> (try simp only [hsx] at hc) <;> (try first | (exfalso; omega) | contradiction | (exfalso; simp [dec_eq] at hc; done)))) | (exfalso; omega) | refine AW.seq ?_ | refine AW.region ?_ | refine Then.norm ?_ | refine AW.skip ?_ | refine AW.block ?_ | refine InB.norm ?_ | refine AW.condT rfl ?_ | refine AW.condF rfl ?_ | (refine AW.cond rfl (fun hc => ?_) (fun hc => ?_) <;> (try simp only [hsx] at hc) <;> (try first | (exfalso; omega) | contradiction | (exfalso; simp [dec_eq] at hc; done))) | refine AW.ret ?_ | refine AW.exit ?_ | refine Then.ret ?_ | refine Then.exit ?_ | refine InB.ret ?_ | refine InB.here ?_ | refine InB.off rfl ?_ | refine Rnd.ret ?_ | refine Rnd.exit ?_ | refine AW.drawW mixed (by kernel_rfl) ?_))
  refine AW.loop (α := Int) (fun i => ⟨[(1, .imm (.sl (l.map Rng.iv))), (2, .imm (.sl ([c].map Change.iv))), (3, .ptr 1 1 0 0), (8, iav 0), (26, .imm (.sl (l.map Rng.iv))), (27, iav (l.map Rng.iv).length), (28, iav i)], [⟨41, 4, []⟩, ⟨24, 1, [[.imm (.sl (f.map Node.iv))]]⟩]⟩) (fun i => 0 ≤ i ∧ i ≤ l.length) (fun i => (l.length - i).toNat) 0 (Le.cut 2 rfl (by repeat' (first | exact trivial | refine ⟨rfl, ?_⟩)) rfl rfl (Nat.zero_le _)) ⟨by omega, by omega⟩ ?_
  rintro i ⟨h0, h1⟩
  (repeat' (first | ((with_reducible show AL _ _ _ _ _); first | (refine AL.step tabs rfl ?_; try dsimp only [len, List.nil_append, List.cons_append]) | refine AL.op rfl (OpOK.callfz rfl rfl rfl rfl (c2 i h0 (by omega)) rfl rfl) ?_ | refine AL.op rfl (OpOK.call rfl rfl rfl rfl hAll rfl) ?_ | refine AL.callG [0] 2 rfl rfl rfl rfl rfl (caps := []) rfl (cloneR_c l (by omega) hne) rfl rfl rfl rfl rfl rfl (by rw [List.all_cons, List.all_nil, Bool.and_true]; exact cR_sc _ _) rfl (hpA := [⟨41, 4, l.map cR⟩]) (by simp only [List.map_cons, List.map_nil, renB_cR]) (r' := .os 0 l.length) rfl rfl ?_ | refine AL.nil ?_ | (refine AL.gsplitE rfl rfl rfl (fun hc => ?_) (fun hc => ?_) <;> (fail_if_success (exact absurd hc (by decide))) <;> (try simp only [hsx] at hc) <;> (try first | (exfalso; omega) | contradiction | (exfalso; simp [dec_eq] at hc; done))) | (refine AL.op rfl (OpOK.ari64 rfl rfl rfl rfl rfl (by omega) (by omega)) ?_) | (refine AL.op rfl (OpOK.index_map tabs rfl rfl rfl rfl rfl rfl rfl (fun _ => rfl) (by decide) (by omega) (by omega)) ?_)) | ((with_reducible show DQ _ _ _ _ _ _); first | refine DQ.stepc (LS.val tabs rfl rfl rfl) rfl rfl rfl rfl rfl ?_ | refine DQ.stepc (LS.skip rfl rfl) rfl rfl rfl rfl rfl ?_ | refine DQ.nilM (by kernel_rfl) ?_ | refine DQ.stepc (LS.ari64 rfl rfl rfl rfl rfl rfl (by omega) (by omega)) rfl rfl rfl rfl rfl ?_ | refine DQ.stepc (LS.index_map tabs rfl rfl rfl rfl rfl rfl rfl rfl (fun _ => rfl) (by decide) (by omega) (by omega)) rfl rfl rfl rfl rfl ?_ | (refine DQ.gsplitE rfl rfl rfl (fun hc => ?_) (fun hc => ?_) <;> (fail_if_success (exact absurd hc (by decide))) <;> (try simp only [hsx] at hc) <;> (try first | (exfalso; omega) | contradiction | (exfalso; simp [dec_eq] at hc; done)))) | (exfalso; omega) | refine AW.seq ?_ | refine AW.region ?_ | refine Then.norm ?_ | refine AW.skip ?_ | refine AW.block ?_ | refine InB.norm ?_ | refine AW.condT rfl ?_ | refine AW.condF rfl ?_ | (refine AW.cond rfl (fun hc => ?_) (fun hc => ?_) <;> (try simp only [hsx] at hc) <;> (try first | (exfalso; omega) | contradiction | (exfalso; simp [dec_eq] at hc; done))) | refine AW.ret ?_ | refine AW.exit ?_ | refine Then.ret ?_ | refine Then.exit ?_ | refine InB.ret ?_ | refine InB.here ?_ | refine InB.off rfl ?_ | refine Rnd.ret ?_ | refine Rnd.exit ?_ | refine AW.drawW mixed (by kernel_rfl) ?_))
  · exact Rnd.norm (i + 1) (Le.cut 2 rfl (by repeat' (first | exact trivial | refine ⟨rfl, ?_⟩)) rfl rfl (Nat.zero_le _)) ⟨by omega, by omega⟩ (by omega)
  clear c1 c2
  obtain ⟨F, hF0, hF1⟩ : ∃ F : Int → List Node, F 0 = f ∧ F 1 = g := ⟨fun j => if j = 0 then f else g, rfl, rfl⟩
  obtain ⟨L, hL0, hL1⟩ : ∃ L : Int → List Rng, L 0 = l ∧ L 1 = l.map (movG f c) := ⟨fun j => if j = 0 then l else l.map (movG f c), rfl, rfl⟩
  refine AW.loop (α := Int) (fun j => ⟨[(3, .ptr 1 1 0 0), (11, .os 0 l.length), (53, .imm (.sl ([c].map Change.iv))), (54, iav ([c].map Change.iv).length), (55, iav j)], [⟨41, 4, (L j).map cR⟩, ⟨24, 1, [[.imm (.sl ((F j).map Node.iv))]]⟩]⟩) (fun j => 0 ≤ j ∧ j ≤ 1) (fun j => (1 - j).toNat) 0 (Le.cut 2 (by rw [hF0, hL0]; rfl) (by repeat' (first | exact trivial | refine ⟨rfl, ?_⟩)) rfl (by simp only [List.all_cons, List.all_nil, Bool.and_true, Bool.and_eq_true]; exact ⟨cR_sc _ _, rfl⟩) (Nat.zero_le _)) ⟨by omega, by omega⟩ ?_
  rintro j ⟨j0, j1⟩
  by_cases hj : j = 0
  · subst hj
    have cM := moves_c f c hk
    rw [hF0, hL0]
    (repeat' (first | ((with_reducible show AL _ _ _ _ _); first | (refine AL.step tabs rfl ?_; try dsimp only [len, List.nil_append, List.cons_append]) | refine AL.callG [] 3 rfl rfl rfl rfl rfl (caps := []) rfl cM rfl rfl rfl rfl rfl rfl rfl rfl (hpA := [⟨24, 1, [[.imm (.sl (f.map Node.iv))]]⟩, ⟨83, 36, [rowC c]⟩]) rfl (r' := .fn 95 [.ptr 3 1 0 0, .ptr 4 1 0 0]) rfl rfl ?_ | refine AL.ope rfl (OpOK.len_os (b := ⟨41, 4, l.map cR⟩) tabs rfl rfl rfl rfl rfl rfl (by simp)) rfl ?_ | refine AL.nil ?_ | (refine AL.gsplitE rfl rfl rfl (fun hc => ?_) (fun hc => ?_) <;> (fail_if_success (exact absurd hc (by decide))) <;> (try simp only [hsx] at hc) <;> (try first | (exfalso; omega) | contradiction | (exfalso; simp [dec_eq] at hc; done))) | (refine AL.op rfl (OpOK.ari64 rfl rfl rfl rfl rfl (by omega) (by omega)) ?_) | (refine AL.op rfl (OpOK.index_map tabs rfl rfl rfl rfl rfl rfl rfl (fun _ => rfl) (by decide) (by omega) (by omega)) ?_)) | ((with_reducible show DQ _ _ _ _ _ _); first | refine DQ.stepc (LS.val tabs rfl rfl rfl) rfl rfl rfl rfl rfl ?_ | refine DQ.stepc (LS.skip rfl rfl) rfl rfl rfl rfl rfl ?_ | refine DQ.nilM (by kernel_rfl) ?_ | refine DQ.stepc (LS.ari64 rfl rfl rfl rfl rfl rfl (by omega) (by omega)) rfl rfl rfl rfl rfl ?_ | refine DQ.stepc (LS.index_map tabs rfl rfl rfl rfl rfl rfl rfl rfl (fun _ => rfl) (by decide) (by omega) (by omega)) rfl rfl rfl rfl rfl ?_ | (refine DQ.gsplitE rfl rfl rfl (fun hc => ?_) (fun hc => ?_) <;> (fail_if_success (exact absurd hc (by decide))) <;> (try simp only [hsx] at hc) <;> (try first | (exfalso; omega) | contradiction | (exfalso; simp [dec_eq] at hc; done)))) | (exfalso; omega) | refine AW.seq ?_ | refine AW.region ?_ | refine Then.norm ?_ | refine AW.skip ?_ | refine AW.block ?_ | refine InB.norm ?_ | refine AW.condT rfl ?_ | refine AW.condF rfl ?_ | (refine AW.cond rfl (fun hc => ?_) (fun hc => ?_) <;> (try simp only [hsx] at hc) <;> (try first | (exfalso; omega) | contradiction | (exfalso; simp [dec_eq] at hc; done))) | refine AW.ret ?_ | refine AW.exit ?_ | refine Then.ret ?_ | refine Then.exit ?_ | refine InB.ret ?_ | refine InB.here ?_ | refine InB.off rfl ?_ | refine Rnd.ret ?_ | refine Rnd.exit ?_ | refine AW.drawW mixed (by kernel_rfl) ?_))
    refine AW.loop (α := Int) (fun i => ⟨[(3, .ptr 1 1 0 0), (11, .os 0 l.length), (13, .ptr 2 1 0 0), (14, .fn 95 [.ptr 3 1 0 0, .ptr 4 1 0 0]), (53, .imm (.sl ([c].map Change.iv))), (54, iav ([c].map Change.iv).length), (55, iav 0), (62, .os 0 l.length), (63, iav l.length), (64, iav i)], [⟨41, 4, (partM (movG f c) l i.toNat).map cR⟩, ⟨24, 1, [[.imm (.sl (f.map Node.iv))]]⟩, ⟨83, 36, [rowC c]⟩, ⟨24, 1, [[.imm (.sl (f.map Node.iv))]]⟩, ⟨83, 36, [rowC c]⟩]⟩) (fun i => 0 ≤ i ∧ i ≤ l.length) (fun i => (l.length - i).toNat) 0 (Le.cut 5 rfl (by repeat' (first | exact trivial | refine ⟨rfl, ?_⟩)) rfl (by simp only [List.all_cons, List.all_nil, Bool.and_true, Bool.and_eq_true]; exact ⟨cR_sc _ _, rfl, rfl, rfl, rfl⟩) (Nat.zero_le _)) ⟨by omega, by omega⟩ ?_
    rintro k ⟨k0, k1⟩
    obtain ⟨R, hR⟩ : ∃ R, R = partM (movG f c) l k.toNat := ⟨_, rfl⟩
    have hRl : R.length = l.length := by rw [hR]; exact partM_len _ _ _ (by omega)
    have hb : k < l.length → okO (atI R k).s.o ∧ okO (atI R k).e.o := fun h => by rw [hR, partM_at _ _ _ k0 h]; exact hO _ (atI_mem k0 h)
    have cm1 : k < l.length → _ := fun h => moves2_c f c (atI R k).s hf hr (hb h).1.1 (hb h).1.2
    have cm2 : k < l.length → _ := fun h => moves2_c f c (atI R k).e hf hr (hb h).2.1 (hb h).2.2
    rw [← hR]
    (repeat' (first | ((with_reducible show AL _ _ _ _ _); first | (refine AL.step tabs rfl ?_; try dsimp only [len, List.nil_append, List.cons_append]) | refine AL.ope rfl (OpOK.index_own (b := ⟨41, 4, R.map cR⟩) tabs rfl rfl rfl rfl rfl rfl rfl rfl (by simp; omega) rfl (by omega) (by omega)) rfl ?_ | refine AL.ope rfl (OpOK.load_m tabs rfl rfl rfl rfl (g := cR) rfl (by omega) (by omega) (by omega) rfl) rfl ?_ | refine AL.op rfl (OpOK.call rfl rfl rfl rfl hApp rfl) ?_ | refine AL.nil ?_ | (refine AL.gsplitE rfl rfl rfl (fun hc => ?_) (fun hc => ?_) <;> (fail_if_success (exact absurd hc (by decide))) <;> (try simp only [hsx] at hc) <;> (try first | (exfalso; omega) | contradiction | (exfalso; simp [dec_eq] at hc; done))) | (refine AL.op rfl (OpOK.ari64 rfl rfl rfl rfl rfl (by omega) (by omega)) ?_) | (refine AL.op rfl (OpOK.index_map tabs rfl rfl rfl rfl rfl rfl rfl (fun _ => rfl) (by decide) (by omega) (by omega)) ?_)) | ((with_reducible show DQ _ _ _ _ _ _); first | refine DQ.stepc (LS.index_own (b := ⟨41, 4, R.map cR⟩) tabs rfl rfl rfl rfl rfl rfl rfl rfl rfl (by simp; omega) rfl (by omega) (by omega)) rfl rfl rfl rfl rfl ?_ | refine DQ.stepc (LS.store (i := ti41) (v := (movG f c (atI R k)).av) (ty := 41) (sz := 4) (rows := R.map cR) (r := cR (atI R k)) tabs rfl rfl rfl rfl rfl rfl rfl (by simp; omega) rfl rfl (by decide) (by rw [List.getElem?_map, atI_get k0 (by omega)]; rfl)) rfl rfl rfl rfl rfl ?_ | refine DQ.stepc (LS.val tabs rfl rfl rfl) rfl rfl rfl rfl rfl ?_ | refine DQ.stepc (LS.skip rfl rfl) rfl rfl rfl rfl rfl ?_ | refine DQ.nilM (by kernel_rfl) ?_ | refine DQ.stepc (LS.ari64 rfl rfl rfl rfl rfl rfl (by omega) (by omega)) rfl rfl rfl rfl rfl ?_ | refine DQ.stepc (LS.index_map tabs rfl rfl rfl rfl rfl rfl rfl rfl (fun _ => rfl) (by decide) (by omega) (by omega)) rfl rfl rfl rfl rfl ?_ | (refine DQ.gsplitE rfl rfl rfl (fun hc => ?_) (fun hc => ?_) <;> (fail_if_success (exact absurd hc (by decide))) <;> (try simp only [hsx] at hc) <;> (try first | (exfalso; omega) | contradiction | (exfalso; simp [dec_eq] at hc; done)))) | ((with_reducible show M2.DQ _ _ _ _ _ _); first | refine M2.DQ.step2 (M2.LS.callG [3, 4] (caps := [.ptr 3 1 0 0, .ptr 4 1 0 0]) rfl rfl rfl rfl rfl (cm1 (by omega)) (fun _ => rfl) (bs := [⟨24, 1, [[.imm (.sl (f.map Node.iv))]]⟩, ⟨83, 36, [rowC c]⟩]) rfl (fun n => rfl) rfl rfl rfl rfl rfl rfl (hpA := [⟨24, 1, [[.imm (.sl (f.map Node.iv))]]⟩, ⟨83, 36, [rowC c]⟩]) (fun n => rfl) (r' := (movR f c (atI R k).s).av) (fun _ => rfl)) rfl rfl rfl rfl rfl ?_ | refine M2.DQ.step2 (M2.LS.callG [3, 4] (caps := [.ptr 3 1 0 0, .ptr 4 1 0 0]) rfl rfl rfl rfl rfl (cm2 (by omega)) (fun _ => rfl) (bs := [⟨24, 1, [[.imm (.sl (f.map Node.iv))]]⟩, ⟨83, 36, [rowC c]⟩]) rfl (fun n => rfl) rfl rfl rfl rfl rfl rfl (hpA := [⟨24, 1, [[.imm (.sl (f.map Node.iv))]]⟩, ⟨83, 36, [rowC c]⟩]) (fun n => rfl) (r' := (movR f c (atI R k).e).av) (fun _ => rfl)) rfl rfl rfl rfl rfl ?_ | refine M2.DQ.stepc (LS.index_own (b := ⟨41, 4, R.map cR⟩) tabs rfl rfl rfl rfl rfl rfl rfl rfl rfl (by simp; omega) rfl (by omega) (by omega)) rfl rfl rfl rfl rfl ?_ | refine M2.DQ.stepc (LS.store (i := ti41) (v := (movG f c (atI R k)).av) (ty := 41) (sz := 4) (rows := R.map cR) (r := cR (atI R k)) tabs rfl rfl rfl rfl rfl rfl rfl (by simp; omega) rfl rfl (by decide) (by rw [List.getElem?_map, atI_get k0 (by omega)]; rfl)) rfl rfl rfl rfl rfl ?_ | refine M2.DQ.stepc (LS.val tabs rfl rfl rfl) rfl rfl rfl rfl rfl ?_ | refine M2.DQ.stepc (LS.skip rfl rfl) rfl rfl rfl rfl rfl ?_ | refine M2.DQ.nilM (by kernel_rfl) ?_ | refine M2.DQ.stepc (LS.ari64 rfl rfl rfl rfl rfl rfl (by omega) (by omega)) rfl rfl rfl rfl rfl ?_ | refine M2.DQ.stepc (LS.index_map tabs rfl rfl rfl rfl rfl rfl rfl rfl (fun _ => rfl) (by decide) (by omega) (by omega)) rfl rfl rfl rfl rfl ?_ | (refine M2.DQ.gsplitE rfl rfl rfl (fun hc => ?_) (fun hc => ?_) <;> (fail_if_success (exact absurd hc (by decide))) <;> (try simp only [hsx] at hc) <;> (try first | (exfalso; omega) | contradiction | (exfalso; simp [dec_eq] at hc; done)))) | (exfalso; omega) | refine M2.drawW (id := 22) mixed (by kernel_rfl) ?_ | refine AW.seq ?_ | refine AW.region ?_ | refine Then.norm ?_ | refine AW.skip ?_ | refine AW.block ?_ | refine InB.norm ?_ | refine AW.condT rfl ?_ | refine AW.condF rfl ?_ | (refine AW.cond rfl (fun hc => ?_) (fun hc => ?_) <;> (try simp only [hsx] at hc) <;> (try first | (exfalso; omega) | contradiction | (exfalso; simp [dec_eq] at hc; done))) | refine AW.ret ?_ | refine AW.exit ?_ | refine Then.ret ?_ | refine Then.exit ?_ | refine InB.ret ?_ | refine InB.here ?_ | refine InB.off rfl ?_ | refine Rnd.ret ?_ | refine Rnd.exit ?_ | refine AW.drawW mixed (by kernel_rfl) ?_))
    · have hset : (R.map cR).set k.toNat (cR (movG f c (atI R k))) = (partM (movG f c) l (k + 1).toNat).map cR := by
        rw [← List.map_set, hR, partM_at _ _ _ k0 hc, partM_set _ _ _ k0 hc]
      exact Rnd.norm (k + 1) (Le.cut 5 (by rw [← hset]; rfl) (by repeat' (first | exact trivial | refine ⟨rfl, ?_⟩)) rfl (by simp only [List.all_cons, List.all_nil, Bool.and_true, Bool.and_eq_true]; exact ⟨cR_sc _ _, rfl, rfl, rfl, rfl⟩) (Nat.zero_le _)) ⟨by omega, by omega⟩ (by omega)
    · have hend : R = l.map (movG f c) := by rw [hR]; exact partM_end _ _ _ (by omega)
      exact Rnd.norm 1 (Le.cut 2 (by rw [hF1, hL1, ← hend]; rfl) (by repeat' (first | exact trivial | refine ⟨rfl, ?_⟩)) rfl (by simp only [List.all_cons, List.all_nil, Bool.and_true, Bool.and_eq_true]; exact ⟨cR_sc _ _, rfl⟩) (Nat.zero_le _)) ⟨by omega, by omega⟩ (by omega)
  · obtain rfl : j = 1 := by omega
    rw [hF1, hL1]
    (repeat' (first | ((with_reducible show AL _ _ _ _ _); first | (refine AL.step tabs rfl ?_; try dsimp only [len, List.nil_append, List.cons_append]) | refine AL.nil ?_ | (refine AL.gsplitE rfl rfl rfl (fun hc => ?_) (fun hc => ?_) <;> (fail_if_success (exact absurd hc (by decide))) <;> (try simp only [hsx] at hc) <;> (try first | (exfalso; omega) | contradiction | (exfalso; simp [dec_eq] at hc; done))) | (refine AL.op rfl (OpOK.ari64 rfl rfl rfl rfl rfl (by omega) (by omega)) ?_) | (refine AL.op rfl (OpOK.index_map tabs rfl rfl rfl rfl rfl rfl rfl (fun _ => rfl) (by decide) (by omega) (by omega)) ?_)) | ((with_reducible show DQ _ _ _ _ _ _); first | refine DQ.stepc (LS.val tabs rfl rfl rfl) rfl rfl rfl rfl rfl ?_ | refine DQ.stepc (LS.skip rfl rfl) rfl rfl rfl rfl rfl ?_ | refine DQ.nilM (by kernel_rfl) ?_ | refine DQ.stepc (LS.ari64 rfl rfl rfl rfl rfl rfl (by omega) (by omega)) rfl rfl rfl rfl rfl ?_ | refine DQ.stepc (LS.index_map tabs rfl rfl rfl rfl rfl rfl rfl rfl (fun _ => rfl) (by decide) (by omega) (by omega)) rfl rfl rfl rfl rfl ?_ | (refine DQ.gsplitE rfl rfl rfl (fun hc => ?_) (fun hc => ?_) <;> (fail_if_success (exact absurd hc (by decide))) <;> (try simp only [hsx] at hc) <;> (try first | (exfalso; omega) | contradiction | (exfalso; simp [dec_eq] at hc; done)))) | (exfalso; omega) | refine AW.seq ?_ | refine AW.region ?_ | refine Then.norm ?_ | refine AW.skip ?_ | refine AW.block ?_ | refine InB.norm ?_ | refine AW.condT rfl ?_ | refine AW.condF rfl ?_ | (refine AW.cond rfl (fun hc => ?_) (fun hc => ?_) <;> (try simp only [hsx] at hc) <;> (try first | (exfalso; omega) | contradiction | (exfalso; simp [dec_eq] at hc; done))) | refine AW.ret ?_ | refine AW.exit ?_ | refine Then.ret ?_ | refine Then.exit ?_ | refine InB.ret ?_ | refine InB.here ?_ | refine InB.off rfl ?_ | refine Rnd.ret ?_ | refine Rnd.exit ?_ | refine AW.drawW mixed (by kernel_rfl) ?_))
    all_goals first
      | exact RQ.ret rfl (Fz.tup (.cons (Fz.os (b := ⟨41, 4, (l.map (movG f c)).map cR⟩) (rows := (l.map (movG f c)).map Rng.iv) rfl (by simp) (cR_reads _)) (.cons (Fz.im rfl) .nil)))
      | (trace_state; sorry)
theorem adjust_c (f g : List Node) (c : Change) (r : Rng) (hf : Fit f) (hr : rightP f) (hk : c.kind = 3) (hG : faultG f [r] [] = 0)
    (hAll : PureC Tryz.prog 12 [fav f, .imm (.sl ([c].map Change.iv))] (.tup [fav g, iav 1, iav 0])) (hApp : PureC Tryz.prog 50 [fav f, c.av] (.tup [fav g, iav 0])) :
    PureC Tryz.prog 42 [fav f, r.av, c.av] (.tup [(movG f c r).av, iav 0]) := by
  have c1 : PureC Tryz.prog 15 [fav f, .imm (.sl ([r].map Rng.iv)), .imm (.sl ([c].map Change.iv))] (.tup [.imm (.sl ([movG f c r].map Rng.iv)), iav 0]) := fold1_c f g c [r] hf hr (by simp) (by simp) hk (by simpa using hG) hAll hApp
  refine PureC.mk tabs Tryz.func42 26 [.cell 6 41, .tmp 7] rfl rfl rfl rfl rfl ?_; intro w0 X
  (repeat' (first | ((with_reducible show AL _ _ _ _ _); first | refine AL.give 5 (h1 := [⟨24, 1, [[.imm (.sl (f.map Node.iv))]]⟩, ⟨41, 4, [cR r]⟩, ⟨83, 36, [rowC c]⟩, ⟨41, 4, [ti41.zero]⟩, ⟨41, 4, [cR r]⟩]) (env1 := [(11, fav f), (13, .os 4 1), (15, .imm (.sl ([c].map Change.iv))), (6, .ptr 3 1 0 0), (7, iav 0)]) ([c].map Change.iv) rfl rfl ⟨⟨_, rfl, rfl⟩, ⟨_, rfl, rfl⟩, ⟨_, rfl, rfl⟩, ⟨_, rfl, rfl⟩, ⟨_, rfl, rfl⟩, trivial⟩ rfl rfl rfl (Nat.zero_le _) ?_ | refine AL.give 4 (h1 := [⟨24, 1, [[.imm (.sl (f.map Node.iv))]]⟩, ⟨41, 4, [cR r]⟩, ⟨83, 36, [rowC c]⟩, ⟨41, 4, [ti41.zero]⟩]) (env1 := [(11, fav f), (13, .imm (.sl ([r].map Rng.iv))), (15, .imm (.sl ([c].map Change.iv))), (6, .ptr 3 1 0 0), (7, iav 0)]) ([r].map Rng.iv) rfl rfl ⟨⟨_, rfl, rfl⟩, ⟨_, rfl, rfl⟩, ⟨_, rfl, rfl⟩, ⟨_, rfl, rfl⟩, ⟨_, rfl, rfl⟩, trivial⟩ rfl rfl rfl (Nat.zero_le _) ?_ | (refine AL.step tabs rfl ?_; try dsimp only [len, List.nil_append, List.cons_append]) | refine AL.op rfl (OpOK.call rfl rfl rfl rfl c1 rfl) ?_ | refine AL.op rfl (OpOK.index_map (i := ti25) (ie := ti41) (f := Rng.iv) (xs := [movG f c r]) tabs rfl rfl rfl rfl rfl rfl rfl (fun _ => rfl) (by decide) (by omega) (by simp)) ?_ | refine AL.nil ?_ | (refine AL.op rfl (OpOK.index_map tabs rfl rfl rfl rfl rfl rfl rfl (fun _ => rfl) (by decide) (by omega) (by omega)) ?_)) | (exfalso; omega) | refine AW.seq ?_ | refine AW.region ?_ | refine Then.norm ?_ | refine AW.skip ?_ | refine AW.condT rfl ?_ | refine AW.condF rfl ?_ | (refine AW.cond rfl (fun hc => ?_) (fun hc => ?_) <;> (try simp only [hsx] at hc) <;> (try first | (exfalso; omega) | contradiction | (exfalso; simp [dec_eq] at hc; done))) | refine AW.ret ?_ | refine Then.ret ?_))
  all_goals first
    | exact RQ.fin rfl rfl rfl
    | (trace_state; sorry)
end Go.Proofs.YtjjdabihnmilgaaGreat.A
namespace Go.Proofs.YtjjdabihnmilgaaGreat.A
open Go.RowKit
set_option linter.unusedVariables false
set_option linter.unusedSimpArgs false
set_option maxRecDepth 100000
set_option maxHeartbeats 4000000
theorem indexArr_run {P : Program} {t e : TypeId} {ie : TI} {n : Nat} (ht : P.underlying t = some (.array n e)) (hTe : TOk P e ie) (ad : Addr) (k : IntKind) (j : Int) (h0 : 0 ≤ j) (h1 : j < n) (w : World) :
    (Instr.indexAt t (.pointer (some ad)) (.int k j)).run P w = .ok (.pointer (some (ad.add (j.toNat * ie.sz)))) w := by
  have d0 : (decide (0 ≤ j) && decide (j < (n : Int))) = true := by simp [h0, h1]
  have hsz := hTe.sizeOf w
  unfold Instr.indexAt
  rw [run_bind (show (asIntOf (.int k j)).run P w = .ok (k, j) w from rfl)]
  have hu := und_run ht w
  simp only [Instr.sureAddr]
  go_simp
  done
theorem OpOK.index_arr {C : Cx} {s : St} {o : Oper} {T : List (Nat × TI)} (hT : TsOK C.P T) (hd : dok C.nt o.dst = true) {t e : TypeId} {n : Nat} {x y : Operand} (ho : o.op = .indexAddr t x y) {ie : TI} (hie : look T e = some ie) (hu : C.P.underlying t = some (.array n e)) {id ver row o' : Nat} {k : IntKind} {j : Int} (hx : s.ev x = some (.ptr id ver row o')) (hy : s.ev y = some (.imm (.int k j)))
    (hcur : curB s (.ptr id ver row o') = true) (h0 : 0 ≤ j) (h1 : j < n) : OpOK C s o (s.put o.dst (.ptr id ver row (o' + j.toNat * ie.sz))) :=
  OpOK.quiet hd fun γ κ a W hC => by
    obtain ⟨b, hb, hver⟩ : ∃ b, s.hp[id]? = some b ∧ ver = b.rows.length := by
      simp only [curB] at hcur
      split at hcur
      · rename_i b hb
        have hver := Nat.eq_of_beq_eq_true hcur
        rw [len_eq] at hver
        rw [nth_eq] at hb
        exact ⟨b, hb, hver⟩
      · cases hcur
    obtain ⟨g, hg, e1⟩ := (hC.ev hx).ptr_val hb hver
    have h2 := hC.ev hy
    cases h2 with
    | imm _ _ h2 =>
      have e2 := h2.int_inv
      refine ⟨_, ?_, .ptr id ver row (o' + j.toNat * ie.sz) b _ hb (Nat.le_of_eq hver) fun _ => ⟨g, hg, rfl⟩⟩
      unfold execOp; rw [ho]
      simp only [e1, e2]
      have := val_run (indexArr_run hu (hT e ie hie) ⟨g, row * b.sz + o', none⟩ k j h0 h1 W)
      have e3 : (⟨g, row * b.sz + o', none⟩ : Addr).add (j.toNat * ie.sz) = ⟨g, row * b.sz + (o' + j.toNat * ie.sz), none⟩ := by unfold Addr.add; split <;> simp_all [Nat.add_assoc]
      rw [e3] at this
      exact this
theorem LS.index_arr {C : Cx} {s : St} {o : Oper} {l : List Oper} {T : List (Nat × TI)} (hT : TsOK C.P T) (hw : awant l s o = some true) (hd : dok C.nt o.dst = true) {t e : TypeId} {n : Nat} {x y : Operand} (ho : o.op = .indexAddr t x y) {ie : TI} (hie : look T e = some ie) (hu : C.P.underlying t = some (.array n e)) {id ver row o' : Nat} {k : IntKind} {j : Int} (hx : s.ev x = some (.ptr id ver row o')) (hy : s.ev y = some (.imm (.int k j)))
    (hcur : curB s (.ptr id ver row o') = true) (h0 : 0 ≤ j) (h1 : j < n) : LS C l s o (mkFx l s o (.val (.ptr id ver row (o' + j.toNat * ie.sz))) []) :=
  LS.quiet [] hw fun s' hl => OpOK.index_arr hT hd ho hie hu ((hl.ev x (by rw [ho]; simp [Op.operands])).trans hx) ((hl.ev y (by rw [ho]; simp [Op.operands])).trans hy) (by
    have := hl.hp x (by rw [ho]; simp [Op.operands]) _ hx id (by simp [refs])
    simp only [curB, this] at hcur ⊢
    exact hcur) h0 h1
def pairL (how : Int) (r s : Rng) : Bnd := if how = 0 then r.s else if how = 1 then r.e else if how = 2 then r.e else r.s
def pairR (how : Int) (r s : Rng) : Bnd := if how = 0 then s.s else if how = 1 then s.s else if how = 2 then s.e else s.e
noncomputable def cmpG (f : List Node) (how : Int) (r s : Rng) : Int × Int :=
  if faultG f [r, s] [] ≠ 0 then (0, faultG f [r, s] []) else if how < 0 ∨ 3 < how then (0, 17) else cmpR f (pairL how r s) (pairR how r s)
theorem compare_c (f : List Node) (how : Int) (r s : Rng) (hf : Fit f) : PureC Tryz.prog 17 [fav f, iav how, r.av, s.av] (.tup [iav (cmpG f how r s).1, iav (cmpG f how r s).2]) := by
  have hl := hf.len
  have c1 := rfault_c f [r, s] [] hf (by simp) (by simp)
  have c2 := bcompare_c f (pairL how r s) (pairR how r s) hf
  unfold cmpG
  generalize faultG f [r, s] [] = w at *
  by_cases hw : w = 0
  · by_cases hh : how < 0 ∨ 3 < how
    · rw [if_neg (by omega), if_pos hh]
      refine PureC.mk tabs Tryz.func17 59 [.tmp 8, .tmp 9] rfl rfl rfl rfl rfl ?_; intro w0 X
      (repeat' (first | ((with_reducible show AL _ _ _ _ _); first | (refine AL.step tabs rfl ?_; try dsimp only [len, List.nil_append, List.cons_append]) | refine AL.op rfl (OpOK.callfz rfl rfl rfl rfl c1 rfl rfl) ?_ | refine AL.nil ?_ | (refine AL.gsplitE rfl rfl rfl (fun hc => ?_) (fun hc => ?_) <;> (fail_if_success (exact absurd hc (by decide))) <;> (try simp only [hsx] at hc) <;> (try first | (exfalso; omega) | contradiction | (exfalso; simp [dec_eq] at hc; done))) | (refine AL.op rfl (OpOK.index_map tabs rfl rfl rfl rfl rfl rfl rfl (fun _ => rfl) (by decide) (by omega) (by omega)) ?_)) | ((with_reducible show DQ _ _ _ _ _ _); first | refine DQ.stepc (LS.val tabs rfl rfl rfl) rfl rfl rfl rfl rfl ?_ | refine DQ.stepc (LS.skip rfl rfl) rfl rfl rfl rfl rfl ?_ | refine DQ.nilM (by kernel_rfl) ?_ | refine DQ.stepc (LS.index_map tabs rfl rfl rfl rfl rfl rfl rfl rfl (fun _ => rfl) (by decide) (by omega) (by omega)) rfl rfl rfl rfl rfl ?_ | (refine DQ.gsplitE rfl rfl rfl (fun hc => ?_) (fun hc => ?_) <;> (fail_if_success (exact absurd hc (by decide))) <;> (try simp only [hsx] at hc) <;> (try first | (exfalso; omega) | contradiction | (exfalso; simp [dec_eq] at hc; done)))) | (exfalso; omega) | refine AW.seq ?_ | refine AW.region ?_ | refine Then.norm ?_ | refine AW.skip ?_ | refine AW.condT rfl ?_ | refine AW.condF rfl ?_ | (refine AW.cond rfl (fun hc => ?_) (fun hc => ?_) <;> (try simp only [hsx] at hc) <;> (try first | (exfalso; omega) | contradiction | (exfalso; simp [dec_eq] at hc; done))) | refine AW.ret ?_ | refine Then.ret ?_ | refine AW.drawW mixed (by kernel_rfl) ?_))
      all_goals first
        | exact RQ.fin rfl rfl rfl
        | (trace_state; sorry)
    · rw [if_neg (by omega), if_neg hh]
      rcases (show how = 0 ∨ how = 1 ∨ how = 2 ∨ how = 3 by omega) with rfl | rfl | rfl | rfl
      · refine PureC.mk tabs Tryz.func17 59 [.tmp 8, .tmp 9] rfl rfl rfl rfl rfl ?_; intro w0 X
        (repeat' (first | ((with_reducible show AL _ _ _ _ _); first | (refine AL.step tabs rfl ?_; try dsimp only [len, List.nil_append, List.cons_append]) | refine AL.op rfl (OpOK.callfz rfl rfl rfl rfl c1 rfl rfl) ?_ | refine AL.op rfl (OpOK.buildArr tabs rfl rfl rfl rfl Tryz.underlying92 rfl rfl) ?_ | refine AL.op rfl (OpOK.buildArr tabs rfl rfl rfl rfl Tryz.underlying93 rfl rfl) ?_ | refine AL.nil ?_ | (refine AL.gsplitE rfl rfl rfl (fun hc => ?_) (fun hc => ?_) <;> (fail_if_success (exact absurd hc (by decide))) <;> (try simp only [hsx] at hc) <;> (try first | (exfalso; omega) | contradiction | (exfalso; simp [dec_eq] at hc; done))) | (refine AL.op rfl (OpOK.index_map tabs rfl rfl rfl rfl rfl rfl rfl (fun _ => rfl) (by decide) (by omega) (by omega)) ?_)) | ((with_reducible show DQ _ _ _ _ _ _); first | refine DQ.stepc (LS.index_arr tabs rfl rfl rfl rfl Tryz.underlying93 rfl rfl rfl (by omega) (by omega)) rfl rfl rfl rfl rfl ?_ | refine DQ.stepc (LS.index_arr tabs rfl rfl rfl rfl Tryz.underlying92 rfl rfl rfl (by omega) (by omega)) rfl rfl rfl rfl rfl ?_ | refine DQ.stepc (LS.call rfl rfl rfl rfl rfl c2 rfl) rfl rfl rfl rfl rfl ?_ | refine DQ.stepc (LS.val tabs rfl rfl rfl) rfl rfl rfl rfl rfl ?_ | refine DQ.stepc (LS.skip rfl rfl) rfl rfl rfl rfl rfl ?_ | refine DQ.nilM (by kernel_rfl) ?_ | refine DQ.stepc (LS.index_map tabs rfl rfl rfl rfl rfl rfl rfl rfl (fun _ => rfl) (by decide) (by omega) (by omega)) rfl rfl rfl rfl rfl ?_ | (refine DQ.gsplitE rfl rfl rfl (fun hc => ?_) (fun hc => ?_) <;> (fail_if_success (exact absurd hc (by decide))) <;> (try simp only [hsx] at hc) <;> (try first | (exfalso; omega) | contradiction | (exfalso; simp [dec_eq] at hc; done)))) | (exfalso; omega) | refine AW.seq ?_ | refine AW.region ?_ | refine Then.norm ?_ | refine AW.skip ?_ | refine AW.condT rfl ?_ | refine AW.condF rfl ?_ | (refine AW.cond rfl (fun hc => ?_) (fun hc => ?_) <;> (try simp only [hsx] at hc) <;> (try first | (exfalso; omega) | contradiction | (exfalso; simp [dec_eq] at hc; done))) | refine AW.ret ?_ | refine Then.ret ?_ | refine AW.drawW mixed (by kernel_rfl) ?_))
        exact RQ.fin rfl rfl rfl
      · refine PureC.mk tabs Tryz.func17 59 [.tmp 8, .tmp 9] rfl rfl rfl rfl rfl ?_; intro w0 X
        (repeat' (first | ((with_reducible show AL _ _ _ _ _); first | (refine AL.step tabs rfl ?_; try dsimp only [len, List.nil_append, List.cons_append]) | refine AL.op rfl (OpOK.callfz rfl rfl rfl rfl c1 rfl rfl) ?_ | refine AL.op rfl (OpOK.buildArr tabs rfl rfl rfl rfl Tryz.underlying92 rfl rfl) ?_ | refine AL.op rfl (OpOK.buildArr tabs rfl rfl rfl rfl Tryz.underlying93 rfl rfl) ?_ | refine AL.nil ?_ | (refine AL.gsplitE rfl rfl rfl (fun hc => ?_) (fun hc => ?_) <;> (fail_if_success (exact absurd hc (by decide))) <;> (try simp only [hsx] at hc) <;> (try first | (exfalso; omega) | contradiction | (exfalso; simp [dec_eq] at hc; done))) | (refine AL.op rfl (OpOK.index_map tabs rfl rfl rfl rfl rfl rfl rfl (fun _ => rfl) (by decide) (by omega) (by omega)) ?_)) | ((with_reducible show DQ _ _ _ _ _ _); first | refine DQ.stepc (LS.index_arr tabs rfl rfl rfl rfl Tryz.underlying93 rfl rfl rfl (by omega) (by omega)) rfl rfl rfl rfl rfl ?_ | refine DQ.stepc (LS.index_arr tabs rfl rfl rfl rfl Tryz.underlying92 rfl rfl rfl (by omega) (by omega)) rfl rfl rfl rfl rfl ?_ | refine DQ.stepc (LS.call rfl rfl rfl rfl rfl c2 rfl) rfl rfl rfl rfl rfl ?_ | refine DQ.stepc (LS.val tabs rfl rfl rfl) rfl rfl rfl rfl rfl ?_ | refine DQ.stepc (LS.skip rfl rfl) rfl rfl rfl rfl rfl ?_ | refine DQ.nilM (by kernel_rfl) ?_ | refine DQ.stepc (LS.index_map tabs rfl rfl rfl rfl rfl rfl rfl rfl (fun _ => rfl) (by decide) (by omega) (by omega)) rfl rfl rfl rfl rfl ?_ | (refine DQ.gsplitE rfl rfl rfl (fun hc => ?_) (fun hc => ?_) <;> (fail_if_success (exact absurd hc (by decide))) <;> (try simp only [hsx] at hc) <;> (try first | (exfalso; omega) | contradiction | (exfalso; simp [dec_eq] at hc; done)))) | (exfalso; omega) | refine AW.seq ?_ | refine AW.region ?_ | refine Then.norm ?_ | refine AW.skip ?_ | refine AW.condT rfl ?_ | refine AW.condF rfl ?_ | (refine AW.cond rfl (fun hc => ?_) (fun hc => ?_) <;> (try simp only [hsx] at hc) <;> (try first | (exfalso; omega) | contradiction | (exfalso; simp [dec_eq] at hc; done))) | refine AW.ret ?_ | refine Then.ret ?_ | refine AW.drawW mixed (by kernel_rfl) ?_))
        exact RQ.fin rfl rfl rfl
      · refine PureC.mk tabs Tryz.func17 59 [.tmp 8, .tmp 9] rfl rfl rfl rfl rfl ?_; intro w0 X
        (repeat' (first | ((with_reducible show AL _ _ _ _ _); first | (refine AL.step tabs rfl ?_; try dsimp only [len, List.nil_append, List.cons_append]) | refine AL.op rfl (OpOK.callfz rfl rfl rfl rfl c1 rfl rfl) ?_ | refine AL.op rfl (OpOK.buildArr tabs rfl rfl rfl rfl Tryz.underlying92 rfl rfl) ?_ | refine AL.op rfl (OpOK.buildArr tabs rfl rfl rfl rfl Tryz.underlying93 rfl rfl) ?_ | refine AL.nil ?_ | (refine AL.gsplitE rfl rfl rfl (fun hc => ?_) (fun hc => ?_) <;> (fail_if_success (exact absurd hc (by decide))) <;> (try simp only [hsx] at hc) <;> (try first | (exfalso; omega) | contradiction | (exfalso; simp [dec_eq] at hc; done))) | (refine AL.op rfl (OpOK.index_map tabs rfl rfl rfl rfl rfl rfl rfl (fun _ => rfl) (by decide) (by omega) (by omega)) ?_)) | ((with_reducible show DQ _ _ _ _ _ _); first | refine DQ.stepc (LS.index_arr tabs rfl rfl rfl rfl Tryz.underlying93 rfl rfl rfl (by omega) (by omega)) rfl rfl rfl rfl rfl ?_ | refine DQ.stepc (LS.index_arr tabs rfl rfl rfl rfl Tryz.underlying92 rfl rfl rfl (by omega) (by omega)) rfl rfl rfl rfl rfl ?_ | refine DQ.stepc (LS.call rfl rfl rfl rfl rfl c2 rfl) rfl rfl rfl rfl rfl ?_ | refine DQ.stepc (LS.val tabs rfl rfl rfl) rfl rfl rfl rfl rfl ?_ | refine DQ.stepc (LS.skip rfl rfl) rfl rfl rfl rfl rfl ?_ | refine DQ.nilM (by kernel_rfl) ?_ | refine DQ.stepc (LS.index_map tabs rfl rfl rfl rfl rfl rfl rfl rfl (fun _ => rfl) (by decide) (by omega) (by omega)) rfl rfl rfl rfl rfl ?_ | (refine DQ.gsplitE rfl rfl rfl (fun hc => ?_) (fun hc => ?_) <;> (fail_if_success (exact absurd hc (by decide))) <;> (try simp only [hsx] at hc) <;> (try first | (exfalso; omega) | contradiction | (exfalso; simp [dec_eq] at hc; done)))) | (exfalso; omega) | refine AW.seq ?_ | refine AW.region ?_ | refine Then.norm ?_ | refine AW.skip ?_ | refine AW.condT rfl ?_ | refine AW.condF rfl ?_ | (refine AW.cond rfl (fun hc => ?_) (fun hc => ?_) <;> (try simp only [hsx] at hc) <;> (try first | (exfalso; omega) | contradiction | (exfalso; simp [dec_eq] at hc; done))) | refine AW.ret ?_ | refine Then.ret ?_ | refine AW.drawW mixed (by kernel_rfl) ?_))
        exact RQ.fin rfl rfl rfl
      · refine PureC.mk tabs Tryz.func17 59 [.tmp 8, .tmp 9] rfl rfl rfl rfl rfl ?_; intro w0 X
        (repeat' (first | ((with_reducible show AL _ _ _ _ _); first | (refine AL.step tabs rfl ?_; try dsimp only [len, List.nil_append, List.cons_append]) | refine AL.op rfl (OpOK.callfz rfl rfl rfl rfl c1 rfl rfl) ?_ | refine AL.op rfl (OpOK.buildArr tabs rfl rfl rfl rfl Tryz.underlying92 rfl rfl) ?_ | refine AL.op rfl (OpOK.buildArr tabs rfl rfl rfl rfl Tryz.underlying93 rfl rfl) ?_ | refine AL.nil ?_ | (refine AL.gsplitE rfl rfl rfl (fun hc => ?_) (fun hc => ?_) <;> (fail_if_success (exact absurd hc (by decide))) <;> (try simp only [hsx] at hc) <;> (try first | (exfalso; omega) | contradiction | (exfalso; simp [dec_eq] at hc; done))) | (refine AL.op rfl (OpOK.index_map tabs rfl rfl rfl rfl rfl rfl rfl (fun _ => rfl) (by decide) (by omega) (by omega)) ?_)) | ((with_reducible show DQ _ _ _ _ _ _); first | refine DQ.stepc (LS.index_arr tabs rfl rfl rfl rfl Tryz.underlying93 rfl rfl rfl (by omega) (by omega)) rfl rfl rfl rfl rfl ?_ | refine DQ.stepc (LS.index_arr tabs rfl rfl rfl rfl Tryz.underlying92 rfl rfl rfl (by omega) (by omega)) rfl rfl rfl rfl rfl ?_ | refine DQ.stepc (LS.call rfl rfl rfl rfl rfl c2 rfl) rfl rfl rfl rfl rfl ?_ | refine DQ.stepc (LS.val tabs rfl rfl rfl) rfl rfl rfl rfl rfl ?_ | refine DQ.stepc (LS.skip rfl rfl) rfl rfl rfl rfl rfl ?_ | refine DQ.nilM (by kernel_rfl) ?_ | refine DQ.stepc (LS.index_map tabs rfl rfl rfl rfl rfl rfl rfl rfl (fun _ => rfl) (by decide) (by omega) (by omega)) rfl rfl rfl rfl rfl ?_ | (refine DQ.gsplitE rfl rfl rfl (fun hc => ?_) (fun hc => ?_) <;> (fail_if_success (exact absurd hc (by decide))) <;> (try simp only [hsx] at hc) <;> (try first | (exfalso; omega) | contradiction | (exfalso; simp [dec_eq] at hc; done)))) | (exfalso; omega) | refine AW.seq ?_ | refine AW.region ?_ | refine Then.norm ?_ | refine AW.skip ?_ | refine AW.condT rfl ?_ | refine AW.condF rfl ?_ | (refine AW.cond rfl (fun hc => ?_) (fun hc => ?_) <;> (try simp only [hsx] at hc) <;> (try first | (exfalso; omega) | contradiction | (exfalso; simp [dec_eq] at hc; done))) | refine AW.ret ?_ | refine Then.ret ?_ | refine AW.drawW mixed (by kernel_rfl) ?_))
        exact RQ.fin rfl rfl rfl
  · rw [if_pos hw]
    refine PureC.mk tabs Tryz.func17 59 [.tmp 8, .tmp 9] rfl rfl rfl rfl rfl ?_; intro w0 X
    (repeat' (first | ((with_reducible show AL _ _ _ _ _); first | (refine AL.step tabs rfl ?_; try dsimp only [len, List.nil_append, List.cons_append]) | refine AL.op rfl (OpOK.callfz rfl rfl rfl rfl c1 rfl rfl) ?_ | refine AL.nil ?_ | (refine AL.gsplitE rfl rfl rfl (fun hc => ?_) (fun hc => ?_) <;> (fail_if_success (exact absurd hc (by decide))) <;> (try simp only [hsx] at hc) <;> (try first | (exfalso; omega) | contradiction | (exfalso; simp [dec_eq] at hc; done))) | (refine AL.op rfl (OpOK.index_map tabs rfl rfl rfl rfl rfl rfl rfl (fun _ => rfl) (by decide) (by omega) (by omega)) ?_)) | ((with_reducible show DQ _ _ _ _ _ _); first | refine DQ.stepc (LS.val tabs rfl rfl rfl) rfl rfl rfl rfl rfl ?_ | refine DQ.stepc (LS.skip rfl rfl) rfl rfl rfl rfl rfl ?_ | refine DQ.nilM (by kernel_rfl) ?_ | refine DQ.stepc (LS.index_map tabs rfl rfl rfl rfl rfl rfl rfl rfl (fun _ => rfl) (by decide) (by omega) (by omega)) rfl rfl rfl rfl rfl ?_ | (refine DQ.gsplitE rfl rfl rfl (fun hc => ?_) (fun hc => ?_) <;> (fail_if_success (exact absurd hc (by decide))) <;> (try simp only [hsx] at hc) <;> (try first | (exfalso; omega) | contradiction | (exfalso; simp [dec_eq] at hc; done)))) | (exfalso; omega) | refine AW.seq ?_ | refine AW.region ?_ | refine Then.norm ?_ | refine AW.skip ?_ | refine AW.condT rfl ?_ | refine AW.condF rfl ?_ | (refine AW.cond rfl (fun hc => ?_) (fun hc => ?_) <;> (try simp only [hsx] at hc) <;> (try first | (exfalso; omega) | contradiction | (exfalso; simp [dec_eq] at hc; done))) | refine AW.ret ?_ | refine Then.ret ?_ | refine AW.drawW mixed (by kernel_rfl) ?_))
    all_goals first
      | exact RQ.fin rfl rfl rfl
      | (trace_state; sorry)
end Go.Proofs.YtjjdabihnmilgaaGreat.A
