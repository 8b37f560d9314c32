/- Contracts: forest.copyOf, with lists of its own. -/
import Derived.Test.YtmhejcnaanocpaaGreatCDOneGrpAM
import Derived.Test.YtmhejcnaanocpaaGreatCDOneGrpAJ
namespace Go.Proofs.YtmhejcnaanocpaaGreat.A
set_option linter.unusedVariables false
set_option linter.unusedSimpArgs false
set_option maxRecDepth 100000
set_option maxHeartbeats 4000000
theorem cloneIl_c (l : List Int) (hl : l.length ≤ 1000000000) (hne : l ≠ []) : GenC Tryz.prog 108 [⟨3, 1, []⟩] [.imm (.sl (l.map i64))] (.os 0 l.length) [⟨3, 1, l.map cI⟩] := by
  have e : (l.map i64).map (·.map AV.imm) = l.map cI := by simp [cI, i64, iav]
  have e1 : ((l.map i64).map (·.map AV.imm)).length = l.length := by simp
  refine GenC.mk tabs Tryz.func108 8 [.tmp 2] rfl rfl rfl rfl rfl ?_; intro w0 X γ κ
  (repeat' (first | ((with_reducible show AL _ _ _ _ _); first | refine AL.ope rfl (OpOK.lit0 tabs rfl rfl rfl rfl rfl rfl) rfl ?_ | (refine AL.step tabs rfl ?_; try dsimp only [len, List.nil_append, List.cons_append]) | refine AL.slnil tabs rfl rfl rfl rfl rfl rfl rfl (fun b hb => ?_) | refine AL.ope rfl (OpOK.append_nocap_at 0 (ie := ti3) tabs rfl rfl rfl rfl rfl (by decide) rfl rfl rfl (rows2 := (l.map i64).map (·.map AV.imm)) (by simpa using hne) (SrcA.imm (rows := l.map i64) tabs rfl rfl rfl (by simp [i64, ti3])) (by simp [ti3]; omega) (by simp; omega)) rfl ?_ | refine AL.nil ?_) | refine AW.seq ?_ | refine AW.region ?_ | refine Then.norm ?_ | refine AW.skip ?_ | refine AW.condT rfl ?_ | refine AW.condF rfl ?_ | (refine AW.cond rfl (fun hc => ?_) (fun hc => ?_) <;> (try simp only [hsx] at hc) <;> (try first | (exfalso; omega) | contradiction | (exfalso; simp [dec_eq] at hc; done))) | refine AW.ret ?_ | refine Then.ret ?_))
  · have e : l = [] := by simpa using hb hc
    exact absurd e hne
  · refine RG.ret 1 rfl ?_ ?_ rfl ?_ (by simp [cxG])
    · show AV.os 0 ((l.map i64).map (·.map AV.imm)).length = _
      rw [e1]
    · show _ = [(⟨3, 1, (l.map i64).map (·.map AV.imm)⟩ : Blk)]
      rw [e]
    · exact (by simp only [List.all_cons, List.all_nil, List.all_map, Function.comp_def, cI, cB, iav, bav, AV.sc1, AV.sc0, Bool.and_true, Bool.and_self, all_tt]; try rfl)
def nodeRow (n : Node) (k : AV) : List AV := [kav n.kind, sav n.name.sp, sav n.name.pf, sav n.name.lc, sav n.pub, sav n.sys, .imm (.sl (n.data.map u16)), .imm (.sl (n.attrs.map Attr.iv)), iav n.parent, k, iav n.doc, iav n.host, iav n.shadow, kav n.mode, bav n.manual, bav n.html]
def rowS (n : Node) : List AV := n.iv.map .imm
theorem rowS_row (n : Node) : rowS n = nodeRow n (.imm (.sl (n.kids.map i64))) := rfl
theorem cloneI0' {l : List Int} (h : l = []) : PureC Tryz.prog 108 [.imm (.sl (l.map i64))] .nocap := by subst h; exact cloneI0_c
theorem copyNode0_c (n : Node) (hn : FitN n) (hk : n.kids = []) : PureC Tryz.prog 94 [n.av] (.agg (nodeRow n .nocap)) := by
  refine PureC.mk tabs Tryz.func94 16 [.cell 2 44] rfl rfl rfl rfl rfl ?_; intro w0 X
  (repeat' (first | ((with_reducible show AL _ _ _ _ _); first | (refine AL.step tabs rfl ?_; try dsimp only [len, List.nil_append, List.cons_append]) | refine AL.op rfl (OpOK.call rfl rfl rfl rfl (cloneD_c n.data hn.data) rfl) ?_ | refine AL.op rfl (OpOK.call rfl rfl rfl rfl (cloneA_c n.attrs hn.attrs) rfl) ?_ | refine AL.op rfl (OpOK.call rfl rfl rfl rfl (cloneI0' hk) rfl) ?_ | refine AL.nil ?_) | refine AW.seq ?_ | refine AW.region ?_ | refine Then.norm ?_ | refine AW.skip ?_ | refine AW.ret ?_ | refine Then.ret ?_))
  exact RQ.ret rfl (Fz.im rfl)
theorem copyNodeK_c (n : Node) (hn : FitN n) (hk : n.kids ≠ []) : GenC Tryz.prog 94 [⟨3, 1, []⟩] [n.av] (.agg (nodeRow n (.os 0 n.kids.length))) [⟨3, 1, n.kids.map cI⟩] := by
  have eR : ∀ m : Nat, (n.kids.map cI).map (·.map (ren1 (rho [0] m))) = n.kids.map cI := by
    intro m; simp [cI, iav, ren1, ren0]
  refine GenC.mk tabs Tryz.func94 16 [.cell 2 44] rfl rfl rfl rfl rfl ?_; intro w0 X γ κ
  (repeat' (first | ((with_reducible show AL _ _ _ _ _); first | (refine AL.step tabs rfl ?_; try dsimp only [len, List.nil_append, List.cons_append]) | refine AL.op rfl (OpOK.call rfl rfl rfl rfl (cloneD_c n.data hn.data) rfl) ?_ | refine AL.op rfl (OpOK.call rfl rfl rfl rfl (cloneA_c n.attrs hn.attrs) rfl) ?_ | refine AL.callG [0] 3 rfl rfl rfl rfl rfl (caps := []) rfl (cloneIl_c n.kids hn.kids hk) rfl rfl rfl rfl rfl rfl (by simp only [List.all_cons, List.all_nil, List.all_map, Function.comp_def, cI, cB, iav, bav, AV.sc1, AV.sc0, Bool.and_true, Bool.and_self, all_tt]; try rfl) rfl (hpA := [⟨3, 1, n.kids.map cI⟩]) (by simp only [List.map_cons, List.map_nil, renB, eR]) rfl rfl ?_ | refine AL.nil ?_) | refine AW.seq ?_ | refine AW.region ?_ | refine Then.norm ?_ | refine AW.skip ?_ | refine AW.ret ?_ | refine Then.ret ?_))
  refine RG.ret 1 rfl rfl rfl rfl ?_ (by simp [cxG])
  exact (by simp only [List.all_cons, List.all_nil, List.all_map, Function.comp_def, cI, cB, iav, bav, AV.sc1, AV.sc0, Bool.and_true, Bool.and_self, all_tt]; try rfl)
def AV.dat : AV → Bool
  | .imm _ => true
  | .nocap => true
  | _ => false
theorem im1_cell {v : AV} (h : v.dat = true) : v.cell = true := by cases v <;> first | rfl | (cases h; done)
theorem im1_sc1 {v : AV} (k : Nat) (h : v.dat = true) : v.sc1 k = true := by cases v <;> first | rfl | (cases h; done)
theorem all_im {T : List (List AV)} (h : T.all (fun r => r.all AV.dat) = true) (k : Nat) : T.all (fun r => r.all (AV.sc1 k)) = true := by
  simp only [List.all_eq_true] at h ⊢
  exact fun r hr c hc => im1_sc1 k (h r hr c hc)
theorem take_set {α : Type} [Inhabited α] (T : List α) (z : α) (n : Nat) (i : Int) (hT : T.length = n) (h0 : 0 ≤ i) (h1 : i < n) : (T.take i.toNat ++ List.replicate (n - i.toNat) z).set i.toNat (atI T i) = T.take (i + 1).toNat ++ List.replicate (n - (i + 1).toNat) z := by
  have hl : (T.take i.toNat).length = i.toNat := by rw [List.length_take]; omega
  rw [List.set_append, if_neg (by omega), hl, Nat.sub_self, show n - i.toNat = (n - (i + 1).toNat) + 1 by omega, List.replicate_succ, List.set_cons_zero, take_next h0 (by omega), List.append_assoc]
  rfl
theorem take_rows {α : Type} (T : List α) (z : α) (n : Nat) (i : Int) (hT : T.length = n) (h0 : 0 ≤ i) (h1 : i ≤ n) : (T.take i.toNat ++ List.replicate (n - i.toNat) z).length = n := by
  simp only [List.length_append, List.length_take, List.length_replicate]; omega
theorem take_at {α : Type} (T : List α) (z : α) (n : Nat) (i : Int) (hT : T.length = n) (h0 : 0 ≤ i) (h1 : i < n) : (T.take i.toNat ++ List.replicate (n - i.toNat) z)[i.toNat]? = some z := by
  rw [List.getElem?_append_right (by rw [List.length_take]; omega), List.length_take, List.getElem?_replicate, if_pos (by omega)]
theorem all_rows {T : List (List AV)} (n : Nat) (i : Int) (k : Nat) (h : T.all (fun r => r.all (AV.sc1 k)) = true) : ((T.take i.toNat ++ List.replicate (n - i.toNat) ti44.zero).all fun r => r.all (AV.sc1 k)) = true := by
  rw [List.all_append, Bool.and_eq_true]
  constructor
  · simp only [List.all_eq_true] at h ⊢
    exact fun r hr => h r (List.mem_of_mem_take hr)
  · simp only [List.all_eq_true]
    intro r hr
    rw [(List.mem_replicate.1 hr).2]
    exact List.all_eq_true.1 rfl
theorem copyOf_c (f : List Node) (T : List (List AV)) (hf : Fit f) (h1 : 0 < f.length) (hT : T.length = f.length) (hTi : T.all (fun r => r.all AV.dat) = true) (hTl : ∀ r ∈ T, r.length = 16) (hcp : ∀ i : Int, 0 ≤ i → i < f.length → PureC Tryz.prog 94 [(atI f i).av] (.agg (atI T i))) : GenC Tryz.prog 70 [⟨44, 16, []⟩] [fav f] (.agg [.os 0 f.length]) [⟨44, 16, T⟩] := by
  have hl := hf.len
  have hm : (List.map Node.iv f).length = f.length := List.length_map _
  refine GenC.mk tabs Tryz.func70 27 [.cell 2 24] rfl rfl rfl rfl rfl ?_; intro w0 X γ κ
  (repeat' (first | ((with_reducible show AL _ _ _ _ _); first | (refine AL.step tabs rfl ?_; try dsimp only [len, List.nil_append, List.cons_append]) | refine AL.ope rfl (OpOK.make_at 0 tabs rfl rfl rfl rfl rfl rfl rfl rfl rfl (by omega) (by omega) (by omega) rfl (by simp only [ti44]; omega)) rfl ?_ | refine AL.nil ?_ | (refine AL.op rfl (OpOK.ari64 rfl rfl rfl rfl rfl (by omega) (by omega)) ?_) | (refine AL.op rfl (OpOK.index_map tabs rfl rfl rfl rfl rfl rfl rfl (fun _ => rfl) (by decide) (by omega) (by omega)) ?_)) | ((with_reducible show DQ _ _ _ _ _ _); first | refine DQ.stepc (LS.val tabs rfl rfl rfl) rfl rfl rfl rfl rfl ?_ | refine DQ.stepc (LS.skip rfl rfl) rfl rfl rfl rfl rfl ?_ | refine DQ.nilM (by kernel_rfl) ?_ | refine DQ.stepc (LS.ari64 rfl rfl rfl rfl rfl rfl (by omega) (by omega)) rfl rfl rfl rfl rfl ?_ | refine DQ.stepc (LS.index_map tabs rfl rfl rfl rfl rfl rfl rfl rfl (fun _ => rfl) (by decide) (by omega) (by omega)) rfl rfl rfl rfl rfl ?_) | refine AW.seq ?_ | refine AW.region ?_ | refine Then.norm ?_ | refine AW.skip ?_ | refine AW.block ?_ | refine InB.norm ?_ | refine AW.condT rfl ?_ | refine AW.condF rfl ?_ | (refine AW.cond rfl (fun hc => ?_) (fun hc => ?_) <;> (try simp only [hsx] at hc) <;> (try first | (exfalso; omega) | contradiction | (exfalso; simp [dec_eq] at hc; done))) | refine AW.ret ?_ | refine AW.exit ?_ | refine Then.ret ?_ | refine Then.exit ?_ | refine InB.ret ?_ | refine InB.here ?_ | refine InB.off rfl ?_ | refine Rnd.ret ?_ | refine Rnd.exit ?_ | refine AW.drawW mixed (by kernel_rfl) ?_))
  refine AW.loop (α := Int) (fun i => ⟨[(2, .ptr 2 1 0 0), (3, .ptr 3 1 0 0), (12, .imm (.sl (f.map Node.iv))), (13, iav (List.map Node.iv f).length), (14, iav i)], [⟨44, 16, T.take i.toNat ++ List.replicate (f.length - i.toNat) ti44.zero⟩, ⟨24, 1, [[.imm (.sl (f.map Node.iv))]]⟩, ⟨24, 1, [[.nils]]⟩, ⟨24, 1, [[.os 0 f.length]]⟩]⟩) (fun i => 0 ≤ i ∧ i ≤ f.length) (fun i => (f.length - i).toNat) 0 (Le.cut 4 (by rw [← hm]; rfl) (by repeat' (first | exact trivial | refine ⟨rfl, ?_⟩)) rfl (by simp only [List.all_cons, List.all_nil, Bool.and_true, Bool.and_eq_true]; exact ⟨all_rows _ _ _ (all_im hTi _), rfl, rfl, rfl⟩) (by simp [cxG])) ⟨by omega, by omega⟩ ?_
  intro i ⟨h0, h2⟩
  (repeat' (first | ((with_reducible show AL _ _ _ _ _); first | (refine AL.step tabs rfl ?_; try dsimp only [len, List.nil_append, List.cons_append]) | refine AL.nil ?_ | (refine AL.op rfl (OpOK.ari64 rfl rfl rfl rfl rfl (by omega) (by omega)) ?_) | (refine AL.op rfl (OpOK.index_map tabs rfl rfl rfl rfl rfl rfl rfl (fun _ => rfl) (by decide) (by omega) (by omega)) ?_)) | ((with_reducible show DQ _ _ _ _ _ _); first | refine DQ.stepc (LS.call rfl rfl rfl rfl rfl (hcp i h0 (by omega)) rfl) rfl rfl rfl rfl rfl ?_ | refine DQ.stepc (LS.index_own (b := ⟨44, 16, T.take i.toNat ++ List.replicate (f.length - i.toNat) ti44.zero⟩) tabs rfl rfl rfl rfl rfl rfl rfl rfl rfl (take_rows _ _ _ _ hT h0 h2).symm rfl (by omega) (by omega)) rfl rfl rfl rfl rfl ?_ | refine DQ.stepc (LS.store (i := ti44) (v := .agg (atI T i)) (ty := 44) (sz := 16) (rows := T.take i.toNat ++ List.replicate (f.length - i.toNat) ti44.zero) tabs rfl rfl rfl rfl rfl rfl rfl (take_rows _ _ _ _ hT h0 h2).symm (hTl _ (atI_mem h0 (by omega))) (by simp only [avCells, List.all_eq_true]; exact fun c hc => im1_cell (List.all_eq_true.1 (List.all_eq_true.1 hTi _ (atI_mem h0 (by omega))) c hc)) (by decide) (take_at _ _ _ _ hT h0 (by omega))) rfl rfl rfl rfl rfl ?_ | refine DQ.stepc (LS.val tabs rfl rfl rfl) rfl rfl rfl rfl rfl ?_ | refine DQ.stepc (LS.skip rfl rfl) rfl rfl rfl rfl rfl ?_ | refine DQ.nilM (by kernel_rfl) ?_ | refine DQ.stepc (LS.ari64 rfl rfl rfl rfl rfl rfl (by omega) (by omega)) rfl rfl rfl rfl rfl ?_ | refine DQ.stepc (LS.index_map tabs rfl rfl rfl rfl rfl rfl rfl rfl (fun _ => rfl) (by decide) (by omega) (by omega)) rfl rfl rfl rfl rfl ?_) | refine AW.seq ?_ | refine AW.region ?_ | refine Then.norm ?_ | refine AW.skip ?_ | refine AW.block ?_ | refine InB.norm ?_ | refine AW.condT rfl ?_ | refine AW.condF rfl ?_ | (refine AW.cond rfl (fun hc => ?_) (fun hc => ?_) <;> (try simp only [hsx] at hc) <;> (try first | (exfalso; omega) | contradiction | (exfalso; simp [dec_eq] at hc; done))) | refine AW.ret ?_ | refine AW.exit ?_ | refine Then.ret ?_ | refine Then.exit ?_ | refine InB.ret ?_ | refine InB.here ?_ | refine InB.off rfl ?_ | refine Rnd.ret ?_ | refine Rnd.exit ?_ | refine AW.drawW mixed (by kernel_rfl) ?_))
  · refine Rnd.norm (i + 1) (Le.cut 4 (by rw [← take_set T ti44.zero f.length i hT h0 (by assumption)]; rfl) (by repeat' (first | exact trivial | refine ⟨rfl, ?_⟩)) rfl (by simp only [List.all_cons, List.all_nil, Bool.and_true, Bool.and_eq_true]; exact ⟨all_rows _ _ _ (all_im hTi _), rfl, rfl, rfl⟩) (by simp [cxG])) ⟨by omega, by omega⟩ (by omega)
  · have e : T.take i.toNat ++ List.replicate (f.length - i.toNat) ti44.zero = T := by
      rw [take_end (by omega), show f.length - i.toNat = 0 by omega]; simp
    refine RG.ret 1 rfl rfl (by rw [e]; rfl) rfl ?_ (by simp [cxG])
    simp only [List.all_cons, List.all_nil, Bool.and_true]
    exact all_im hTi _
def rowsK (f : List Node) (p : Int) (k : AV) : List (List AV) := (f.map rowS).set p.toNat (nodeRow (atI f p) k)
theorem rowsK_len (f : List Node) (p : Int) (k : AV) : (rowsK f p k).length = f.length := by unfold rowsK; simp
theorem atI_map {α β : Type} [Inhabited α] [Inhabited β] (g : α → β) (l : List α) (i : Int) (h0 : 0 ≤ i) (h1 : i < l.length) : atI (l.map g) i = g (atI l i) := by
  have e1 := atI_get h0 h1
  have e2 := atI_get (xs := l.map g) h0 (by simpa using h1)
  rw [List.getElem?_map, e1] at e2
  exact (Option.some.inj e2).symm
theorem rowsK_at (f : List Node) (p : Int) (k : AV) (hp : 0 ≤ p) (hp1 : p < f.length) (i : Int) (h0 : 0 ≤ i) (h1 : i < f.length) : atI (rowsK f p k) i = if i = p then nodeRow (atI f p) k else rowS (atI f i) := by
  unfold rowsK
  rw [atI_set _ _ _ _ hp (by simpa using hp1) h0, atI_map _ _ _ h0 h1]
theorem rowsK_mem {f : List Node} {p : Int} {k : AV} {r : List AV} (h : r ∈ rowsK f p k) : r = nodeRow (atI f p) k ∨ ∃ n ∈ f, r = rowS n := by
  unfold rowsK at h
  rcases List.mem_or_eq_of_mem_set h with h | h
  · obtain ⟨n, h1, h2⟩ := List.mem_map.1 h
    exact .inr ⟨n, h1, h2.symm⟩
  · exact .inl h
theorem rowS_all (n : Node) (k : Nat) : (rowS n).all (AV.sc1 k) = true := rfl
theorem rowsK_sc (f : List Node) (p : Int) (k : AV) (m : Nat) (h : k.sc1 m = true) : (rowsK f p k).all (fun r => r.all (AV.sc1 m)) = true := by
  rw [List.all_eq_true]
  intro r hr
  rcases rowsK_mem hr with rfl | ⟨n, _, rfl⟩
  · unfold nodeRow
    simp only [List.all_cons, List.all_nil, h]
    rfl
  · exact rowS_all n m
theorem copyOfK_c (f : List Node) (p : Int) (hf : Fit f) (hp : 0 ≤ p) (hp1 : p < f.length) (hk : (atI f p).kids ≠ []) : GenC Tryz.prog 70 [⟨44, 16, []⟩, ⟨3, 1, []⟩] [fav f] (.agg [.os 0 f.length]) [⟨44, 16, rowsK f p (.os 1 (atI f p).kids.length)⟩, ⟨3, 1, (atI f p).kids.map cI⟩] := by
  have hl := hf.len
  have hm : (List.map Node.iv f).length = f.length := List.length_map _
  obtain ⟨T, hT0⟩ : ∃ T, T = rowsK f p (.os 1 (atI f p).kids.length) := ⟨_, rfl⟩
  rw [← hT0]
  have hT : T.length = f.length := by rw [hT0, rowsK_len]
  have hat : ∀ i : Int, 0 ≤ i → i < f.length → atI T i = if i = p then nodeRow (atI f p) (.os 1 (atI f p).kids.length) else rowS (atI f i) := fun i h0 h1 => by rw [hT0]; exact rowsK_at f p _ hp hp1 i h0 h1
  have hsc : ∀ k, 2 ≤ k → T.all (fun r => r.all (AV.sc1 k)) = true := fun k hk => by
    rw [hT0]; exact rowsK_sc f p _ k (by simp only [AV.sc1, AV.sc0, Nat.blt_eq]; omega)
  clear hT0
  obtain ⟨K, hK⟩ : ∃ K : Int → List Int, ∀ i, K i = if p < i then (atI f p).kids else [] := ⟨fun i => if p < i then (atI f p).kids else [], fun _ => rfl⟩
  have eR : ∀ m : Nat, ((atI f p).kids.map cI).map (·.map (ren1 (rho [1] m))) = (atI f p).kids.map cI := by
    intro m; simp [cI, iav, ren1, ren0]
  have hz : ∀ k, (ti44.zero.all (AV.sc1 k)) = true := fun k => rfl
  refine GenC.mk tabs Tryz.func70 27 [.cell 2 24] rfl rfl rfl rfl rfl ?_; intro w0 X γ κ
  (repeat' (first | ((with_reducible show AL _ _ _ _ _); first | (refine AL.step tabs rfl ?_; try dsimp only [len, List.nil_append, List.cons_append]) | refine AL.ope rfl (OpOK.make_at 0 tabs rfl rfl rfl rfl rfl rfl rfl rfl rfl (by omega) (by omega) (by omega) rfl (by simp only [ti44]; omega)) rfl ?_ | refine AL.nil ?_ | (refine AL.op rfl (OpOK.ari64 rfl rfl rfl rfl rfl (by omega) (by omega)) ?_) | (refine AL.op rfl (OpOK.index_map tabs rfl rfl rfl rfl rfl rfl rfl (fun _ => rfl) (by decide) (by omega) (by omega)) ?_)) | ((with_reducible show DQ _ _ _ _ _ _); first | refine DQ.stepc (LS.val tabs rfl rfl rfl) rfl rfl rfl rfl rfl ?_ | refine DQ.stepc (LS.skip rfl rfl) rfl rfl rfl rfl rfl ?_ | refine DQ.nilM (by kernel_rfl) ?_ | refine DQ.stepc (LS.ari64 rfl rfl rfl rfl rfl rfl (by omega) (by omega)) rfl rfl rfl rfl rfl ?_ | refine DQ.stepc (LS.index_map tabs rfl rfl rfl rfl rfl rfl rfl rfl (fun _ => rfl) (by decide) (by omega) (by omega)) rfl rfl rfl rfl rfl ?_) | refine AW.seq ?_ | refine AW.region ?_ | refine Then.norm ?_ | refine AW.skip ?_ | refine AW.block ?_ | refine InB.norm ?_ | refine AW.condT rfl ?_ | refine AW.condF rfl ?_ | (refine AW.cond rfl (fun hc => ?_) (fun hc => ?_) <;> (try simp only [hsx] at hc) <;> (try first | (exfalso; omega) | contradiction | (exfalso; simp [dec_eq] at hc; done))) | refine AW.ret ?_ | refine AW.exit ?_ | refine Then.ret ?_ | refine Then.exit ?_ | refine InB.ret ?_ | refine InB.here ?_ | refine InB.off rfl ?_ | refine Rnd.ret ?_ | refine Rnd.exit ?_ | refine AW.drawW mixed (by kernel_rfl) ?_))
  refine AW.loop (α := Int) (fun i => ⟨[(2, .ptr 3 1 0 0), (3, .ptr 4 1 0 0), (12, .imm (.sl (f.map Node.iv))), (13, iav (List.map Node.iv f).length), (14, iav i)], [⟨44, 16, T.take i.toNat ++ List.replicate (f.length - i.toNat) ti44.zero⟩, ⟨3, 1, (K i).map cI⟩, ⟨24, 1, [[.imm (.sl (f.map Node.iv))]]⟩, ⟨24, 1, [[.nils]]⟩, ⟨24, 1, [[.os 0 f.length]]⟩]⟩) (fun i => 0 ≤ i ∧ i ≤ f.length) (fun i => (f.length - i).toNat) 0 (Le.cut 5 (by rw [hK, if_neg (by omega), ← hm]; rfl) (by repeat' (first | exact trivial | refine ⟨rfl, ?_⟩)) rfl (by simp only [List.all_cons, List.all_nil, Bool.and_true, Bool.and_eq_true]; exact ⟨all_rows _ _ _ (hsc _ (by omega)), (by simp only [List.all_cons, List.all_nil, List.all_map, Function.comp_def, cI, cB, iav, bav, AV.sc1, AV.sc0, Bool.and_true, Bool.and_self, all_tt]; try rfl), rfl, rfl, rfl⟩) (by simp [cxG])) ⟨by omega, by omega⟩ ?_
  intro i ⟨h0, h2⟩
  by_cases hip : i = p
  · subst hip
    have e1 : K i = [] := by rw [hK, if_neg (by omega)]
    have e2 : K (i + 1) = (atI f i).kids := by rw [hK, if_pos (by omega)]
    have e3 := hat i hp hp1
    rw [if_pos rfl] at e3
    rw [e1]
    (repeat' (first | ((with_reducible show AL _ _ _ _ _); first | (refine AL.step tabs rfl ?_; try dsimp only [len, List.nil_append, List.cons_append]) | refine AL.nil ?_ | (refine AL.op rfl (OpOK.ari64 rfl rfl rfl rfl rfl (by omega) (by omega)) ?_) | (refine AL.op rfl (OpOK.index_map tabs rfl rfl rfl rfl rfl rfl rfl (fun _ => rfl) (by decide) (by omega) (by omega)) ?_)) | ((with_reducible show DQ _ _ _ _ _ _); first | refine DQ.stepc (LS.callG1 1 (r' := .agg (nodeRow (atI f i) (.os 1 (atI f i).kids.length))) rfl rfl rfl rfl rfl (copyNodeK_c (atI f i) (hf.atI i hp hp1) hk) rfl (fun _ => rfl) rfl rfl rfl (by simp only [List.all_cons, List.all_nil, List.all_map, Function.comp_def, cI, cB, iav, bav, AV.sc1, AV.sc0, Bool.and_true, Bool.and_self, all_tt]; try rfl) (bA := ⟨3, 1, (atI f i).kids.map cI⟩) (fun n => by simp only [renB, eR]) (fun _ => rfl)) rfl rfl rfl rfl rfl ?_ | refine DQ.stepc (LS.index_own (b := ⟨44, 16, T.take i.toNat ++ List.replicate (f.length - i.toNat) ti44.zero⟩) tabs rfl rfl rfl rfl rfl rfl rfl rfl rfl (take_rows _ _ _ _ hT h0 h2).symm rfl (by omega) (by omega)) rfl rfl rfl rfl rfl ?_ | refine DQ.stepc (LS.store (i := ti44) (v := .agg (nodeRow (atI f i) (.os 1 (atI f i).kids.length))) (ty := 44) (sz := 16) (rows := T.take i.toNat ++ List.replicate (f.length - i.toNat) ti44.zero) tabs rfl rfl rfl rfl rfl rfl rfl (take_rows _ _ _ _ hT h0 h2).symm rfl rfl (by decide) (take_at _ _ _ _ hT h0 (by omega))) rfl rfl rfl rfl rfl ?_ | refine DQ.stepc (LS.val tabs rfl rfl rfl) rfl rfl rfl rfl rfl ?_ | refine DQ.stepc (LS.skip rfl rfl) rfl rfl rfl rfl rfl ?_ | refine DQ.nilM (by kernel_rfl) ?_ | refine DQ.stepc (LS.ari64 rfl rfl rfl rfl rfl rfl (by omega) (by omega)) rfl rfl rfl rfl rfl ?_ | refine DQ.stepc (LS.index_map tabs rfl rfl rfl rfl rfl rfl rfl rfl (fun _ => rfl) (by decide) (by omega) (by omega)) rfl rfl rfl rfl rfl ?_) | refine AW.seq ?_ | refine AW.region ?_ | refine Then.norm ?_ | refine AW.skip ?_ | refine AW.block ?_ | refine InB.norm ?_ | refine AW.condT rfl ?_ | refine AW.condF rfl ?_ | (refine AW.cond rfl (fun hc => ?_) (fun hc => ?_) <;> (try simp only [hsx] at hc) <;> (try first | (exfalso; omega) | contradiction | (exfalso; simp [dec_eq] at hc; done))) | refine AW.ret ?_ | refine AW.exit ?_ | refine Then.ret ?_ | refine Then.exit ?_ | refine InB.ret ?_ | refine InB.here ?_ | refine InB.off rfl ?_ | refine Rnd.ret ?_ | refine Rnd.exit ?_ | refine AW.drawW mixed (by kernel_rfl) ?_))
    refine Rnd.norm (i + 1) (Le.cut 5 (by rw [← take_set T ti44.zero f.length i hT h0 (by assumption), e2, e3]; rfl) (by repeat' (first | exact trivial | refine ⟨rfl, ?_⟩)) rfl (by simp only [List.all_cons, List.all_nil, Bool.and_true, Bool.and_eq_true]; exact ⟨all_rows _ _ _ (hsc _ (by omega)), (by simp only [List.all_cons, List.all_nil, List.all_map, Function.comp_def, cI, cB, iav, bav, AV.sc1, AV.sc0, Bool.and_true, Bool.and_self, all_tt]; try rfl), rfl, rfl, rfl⟩) (by simp [cxG])) ⟨by omega, by omega⟩ (by omega)
  · have e2 : i < f.length → K (i + 1) = K i := fun hi => by
      rw [hK, hK]
      by_cases h : p < i
      · rw [if_pos (by omega), if_pos h]
      · rw [if_neg (by omega), if_neg h]
    have e3 : i < f.length → atI T i = rowS (atI f i) := fun hi => by rw [hat i h0 hi, if_neg hip]
    (repeat' (first | ((with_reducible show AL _ _ _ _ _); first | (refine AL.step tabs rfl ?_; try dsimp only [len, List.nil_append, List.cons_append]) | refine AL.nil ?_ | (refine AL.op rfl (OpOK.ari64 rfl rfl rfl rfl rfl (by omega) (by omega)) ?_) | (refine AL.op rfl (OpOK.index_map tabs rfl rfl rfl rfl rfl rfl rfl (fun _ => rfl) (by decide) (by omega) (by omega)) ?_)) | ((with_reducible show DQ _ _ _ _ _ _); first | refine DQ.stepc (LS.call rfl rfl rfl rfl rfl (copyNode_c (atI f i) (hf.atI i h0 (by omega))) rfl) rfl rfl rfl rfl rfl ?_ | refine DQ.stepc (LS.index_own (b := ⟨44, 16, T.take i.toNat ++ List.replicate (f.length - i.toNat) ti44.zero⟩) tabs rfl rfl rfl rfl rfl rfl rfl rfl rfl (take_rows _ _ _ _ hT h0 h2).symm rfl (by omega) (by omega)) rfl rfl rfl rfl rfl ?_ | refine DQ.stepc (LS.store (i := ti44) (v := .agg (rowS (atI f i))) (ty := 44) (sz := 16) (rows := T.take i.toNat ++ List.replicate (f.length - i.toNat) ti44.zero) tabs rfl rfl rfl rfl rfl rfl rfl (take_rows _ _ _ _ hT h0 h2).symm rfl rfl (by decide) (take_at _ _ _ _ hT h0 (by omega))) rfl rfl rfl rfl rfl ?_ | refine DQ.stepc (LS.val tabs rfl rfl rfl) rfl rfl rfl rfl rfl ?_ | refine DQ.stepc (LS.skip rfl rfl) rfl rfl rfl rfl rfl ?_ | refine DQ.nilM (by kernel_rfl) ?_ | refine DQ.stepc (LS.ari64 rfl rfl rfl rfl rfl rfl (by omega) (by omega)) rfl rfl rfl rfl rfl ?_ | refine DQ.stepc (LS.index_map tabs rfl rfl rfl rfl rfl rfl rfl rfl (fun _ => rfl) (by decide) (by omega) (by omega)) rfl rfl rfl rfl rfl ?_) | refine AW.seq ?_ | refine AW.region ?_ | refine Then.norm ?_ | refine AW.skip ?_ | refine AW.block ?_ | refine InB.norm ?_ | refine AW.condT rfl ?_ | refine AW.condF rfl ?_ | (refine AW.cond rfl (fun hc => ?_) (fun hc => ?_) <;> (try simp only [hsx] at hc) <;> (try first | (exfalso; omega) | contradiction | (exfalso; simp [dec_eq] at hc; done))) | refine AW.ret ?_ | refine AW.exit ?_ | refine Then.ret ?_ | refine Then.exit ?_ | refine InB.ret ?_ | refine InB.here ?_ | refine InB.off rfl ?_ | refine Rnd.ret ?_ | refine Rnd.exit ?_ | refine AW.drawW mixed (by kernel_rfl) ?_))
    · refine Rnd.norm (i + 1) (Le.cut 5 (by rw [← take_set T ti44.zero f.length i hT h0 (by assumption), e2 (by assumption), e3 (by assumption)]; rfl) (by repeat' (first | exact trivial | refine ⟨rfl, ?_⟩)) rfl (by simp only [List.all_cons, List.all_nil, Bool.and_true, Bool.and_eq_true]; exact ⟨all_rows _ _ _ (hsc _ (by omega)), (by simp only [List.all_cons, List.all_nil, List.all_map, Function.comp_def, cI, cB, iav, bav, AV.sc1, AV.sc0, Bool.and_true, Bool.and_self, all_tt]; try rfl), rfl, rfl, rfl⟩) (by simp [cxG])) ⟨by omega, by omega⟩ (by omega)
    · have e : T.take i.toNat ++ List.replicate (f.length - i.toNat) ti44.zero = T := by
        rw [take_end (by omega), show f.length - i.toNat = 0 by omega]; simp
      have e4 : K i = (atI f p).kids := by rw [hK, if_pos (by omega)]
      refine RG.ret 2 rfl rfl (by rw [e, e4]; rfl) rfl ?_ (by simp [cxG])
      simp only [List.all_cons, List.all_nil, Bool.and_true, Bool.and_eq_true]
      exact ⟨hsc _ (by omega), (by simp only [List.all_cons, List.all_nil, List.all_map, Function.comp_def, cI, cB, iav, bav, AV.sc1, AV.sc0, Bool.and_true, Bool.and_self, all_tt]; try rfl)⟩
end Go.Proofs.YtmhejcnaanocpaaGreat.A
