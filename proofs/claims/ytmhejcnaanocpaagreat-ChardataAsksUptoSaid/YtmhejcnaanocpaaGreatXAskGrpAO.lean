/- Contracts: forest.copyOf, with lists of its own. -/
import Derived.Test.YtmhejcnaanocpaaGreatXAskGrpAN
import Derived.Test.YtmhejcnaanocpaaGreatXAskGrpAI
import Derived.Test.YtmhejcnaanocpaaGreatXAskGrpAJ
namespace Go.Proofs.YtmhejcnaanocpaaGreat.A
set_option linter.unusedVariables false
set_option linter.unusedSimpArgs false
set_option maxRecDepth 100000
set_option maxHeartbeats 4000000
theorem qja (l : List Int) (hl : l.length ≤ 1000000000) (hne : l ≠ []) : GenC Tryz.prog 108 [⟨3, 1, []⟩] [.imm (.sl (l.map i64))] (.os 0 l.length) [⟨3, 1, l.map cI⟩] := by
  have e : (l.map i64).map (·.map AV.imm) = l.map cI := by simp [cI, i64, iav]
  have e1 : ((l.map i64).map (·.map AV.imm)).length = l.length := by simp
  refine yaj tabs Tryz.func108 8 [.tmp 2] rfl rfl rfl rfl rfl ?_; intro w0 X γ κ
  (repeat' (first | ((with_reducible show AL _ _ _ _ _); first | refine yad rfl (ybu tabs rfl rfl rfl rfl rfl rfl) rfl ?_ | (refine AL.step tabs rfl ?_; try dsimp only [len, List.nil_append, List.cons_append]) | refine ybo tabs rfl rfl rfl rfl rfl rfl rfl (fun b hb => ?_) | refine yad rfl (yax 0 (ie := ti3) tabs rfl rfl rfl rfl rfl (by decide) rfl rfl rfl (rows2 := (l.map i64).map (·.map AV.imm)) (by simpa using hne) (SrcA.imm (rows := l.map i64) tabs rfl rfl rfl (by simp [i64, ti3])) (by simp [ti3]; omega) (by simp; omega)) rfl ?_ | refine ym ?_) | refine yn ?_ | refine yc ?_ | refine ya ?_ | refine yf ?_ | refine yh rfl ?_ | refine yg rfl ?_ | (refine yk rfl (fun hc => ?_) (fun hc => ?_) <;> (try simp only [hsx] at hc) <;> (try first | omega | contradiction | (simp [qa] at hc; done))) | refine yo ?_ | refine yd ?_))
  · have e : l = [] := by simpa using hb hc
    exact absurd e hne
  · refine yam 1 rfl ?_ ?_ rfl ?_ (by simp [cxG])
    · show AV.os 0 ((l.map i64).map (·.map AV.imm)).length = _
      rw [e1]
    · show _ = [(⟨3, 1, (l.map i64).map (·.map AV.imm)⟩ : Blk)]
      rw [e]
    · exact (by simp only [List.all_cons, List.all_nil, List.all_map, Function.comp_def, cI, cB, iav, bav, AV.sc1, AV.sc0, Bool.and_true, Bool.and_self, qf]; try rfl)
def nodeRow (n : Node) (k : AV) : List AV := [kav n.kind, sav n.name.sp, sav n.name.pf, sav n.name.lc, sav n.pub, sav n.sys, .imm (.sl (n.data.map u16)), .imm (.sl (n.attrs.map Attr.iv)), iav n.parent, k, iav n.doc, iav n.host, iav n.shadow, kav n.mode, bav n.manual, bav n.html]
def rowS (n : Node) : List AV := n.iv.map .imm
theorem cloneI0' {l : List Int} (h : l = []) : PureC Tryz.prog 108 [.imm (.sl (l.map i64))] .nocap := by subst h; exact qi8
theorem qgs (n : Node) (hn : FitN n) (hk : n.kids = []) : PureC Tryz.prog 94 [n.av] (.agg (nodeRow n .nocap)) := by
  refine yq tabs Tryz.func94 16 [.cell 2 44] rfl rfl rfl rfl rfl ?_; intro w0 X
  (repeat' (first | ((with_reducible show AL _ _ _ _ _); first | (refine AL.step tabs rfl ?_; try dsimp only [len, List.nil_append, List.cons_append]) | refine AL.op rfl (yb rfl rfl rfl rfl (qe5 n.data hn.data) rfl) ?_ | refine AL.op rfl (yb rfl rfl rfl rfl (qcz n.attrs hn.attrs) rfl) ?_ | refine AL.op rfl (yb rfl rfl rfl rfl (cloneI0' hk) rfl) ?_ | refine ym ?_) | refine yn ?_ | refine yc ?_ | refine ya ?_ | refine yf ?_ | refine yo ?_ | refine yd ?_))
  exact yao rfl (Fz.im rfl)
theorem qgt (n : Node) (hn : FitN n) (hk : n.kids ≠ []) : GenC Tryz.prog 94 [⟨3, 1, []⟩] [n.av] (.agg (nodeRow n (.os 0 n.kids.length))) [⟨3, 1, n.kids.map cI⟩] := by
  have eR : ∀ m : Nat, (n.kids.map cI).map (·.map (ren1 (rho [0] m))) = n.kids.map cI := by
    intro m; simp [cI, iav, ren1, ren0]
  refine yaj tabs Tryz.func94 16 [.cell 2 44] rfl rfl rfl rfl rfl ?_; intro w0 X γ κ
  (repeat' (first | ((with_reducible show AL _ _ _ _ _); first | (refine AL.step tabs rfl ?_; try dsimp only [len, List.nil_append, List.cons_append]) | refine AL.op rfl (yb rfl rfl rfl rfl (qe5 n.data hn.data) rfl) ?_ | refine AL.op rfl (yb rfl rfl rfl rfl (qcz n.attrs hn.attrs) rfl) ?_ | refine yac [0] 3 rfl rfl rfl rfl rfl (caps := []) rfl (qja n.kids hn.kids hk) rfl rfl rfl rfl rfl rfl (by simp only [List.all_cons, List.all_nil, List.all_map, Function.comp_def, cI, cB, iav, bav, AV.sc1, AV.sc0, Bool.and_true, Bool.and_self, qf]; try rfl) rfl (hpA := [⟨3, 1, n.kids.map cI⟩]) (by simp only [List.map_cons, List.map_nil, renB, eR]) rfl rfl ?_ | refine ym ?_) | refine yn ?_ | refine yc ?_ | refine ya ?_ | refine yf ?_ | refine yo ?_ | refine yd ?_))
  refine yam 1 rfl rfl rfl rfl ?_ (by simp [cxG])
  exact (by simp only [List.all_cons, List.all_nil, List.all_map, Function.comp_def, cI, cB, iav, bav, AV.sc1, AV.sc0, Bool.and_true, Bool.and_self, qf]; try rfl)
def AV.dat : AV → Bool
  | .imm _ => true
  | .nocap => true
  | _ => false
theorem qk9 {v : AV} (h : v.dat = true) : v.cell = true := by cases v <;> first | rfl | (cases h; done)
theorem qnh {v : AV} (k : Nat) (h : v.dat = true) : v.sc1 k = true := by cases v <;> first | rfl | (cases h; done)
theorem qjb {T : List (List AV)} (h : T.all (fun r => r.all AV.dat) = true) (k : Nat) : T.all (fun r => r.all (AV.sc1 k)) = true := by
  simp only [List.all_eq_true] at h ⊢
  exact fun r hr c hc => qnh k (h r hr c hc)
theorem take_set {α : Type} [Inhabited α] (T : List α) (z : α) (n : Nat) (i : Int) (hT : T.length = n) (h0 : 0 ≤ i) (h1 : i < n) : (T.take i.toNat ++ List.replicate (n - i.toNat) z).set i.toNat (atI T i) = T.take (i + 1).toNat ++ List.replicate (n - (i + 1).toNat) z := by
  have hl : (T.take i.toNat).length = i.toNat := by rw [List.length_take]; omega
  rw [List.set_append, if_neg (by omega), hl, Nat.sub_self, show n - i.toNat = (n - (i + 1).toNat) + 1 by omega, List.replicate_succ, List.set_cons_zero, qi h0 (by omega), List.append_assoc]
  rfl
theorem qap {α : Type} (T : List α) (z : α) (n : Nat) (i : Int) (hT : T.length = n) (h0 : 0 ≤ i) (h1 : i ≤ n) : (T.take i.toNat ++ List.replicate (n - i.toNat) z).length = n := by
  simp only [List.length_append, List.length_take, List.length_replicate]; omega
theorem qd3 {α : Type} (T : List α) (z : α) (n : Nat) (i : Int) (hT : T.length = n) (h0 : 0 ≤ i) (h1 : i < n) : (T.take i.toNat ++ List.replicate (n - i.toNat) z)[i.toNat]? = some z := by
  rw [List.getElem?_append_right (by rw [List.length_take]; omega), List.length_take, List.getElem?_replicate, if_pos (by omega)]
theorem qbk {T : List (List AV)} (n : Nat) (i : Int) (k : Nat) (h : T.all (fun r => r.all (AV.sc1 k)) = true) : ((T.take i.toNat ++ List.replicate (n - i.toNat) ti44.zero).all fun r => r.all (AV.sc1 k)) = true := by
  rw [List.all_append, Bool.and_eq_true]
  constructor
  · simp only [List.all_eq_true] at h ⊢
    exact fun r hr => h r (List.mem_of_mem_take hr)
  · simp only [List.all_eq_true]
    intro r hr
    rw [(List.mem_replicate.1 hr).2]
    exact List.all_eq_true.1 rfl
theorem qe7 (f : List Node) (T : List (List AV)) (hf : Fit f) (h1 : 0 < f.length) (hT : T.length = f.length) (hTi : T.all (fun r => r.all AV.dat) = true) (hTl : ∀ r ∈ T, r.length = 16) (hcp : ∀ i : Int, 0 ≤ i → i < f.length → PureC Tryz.prog 94 [(atI f i).av] (.agg (atI T i))) : GenC Tryz.prog 70 [⟨44, 16, []⟩] [fav f] (.agg [.os 0 f.length]) [⟨44, 16, T⟩] := by
  have hl := hf.len
  have hm : (List.map Node.iv f).length = f.length := List.length_map _
  refine yaj tabs Tryz.func70 27 [.cell 2 24] rfl rfl rfl rfl rfl ?_; intro w0 X γ κ
  (repeat' (first | ((with_reducible show AL _ _ _ _ _); first | (refine AL.step tabs rfl ?_; try dsimp only [len, List.nil_append, List.cons_append]) | refine yad rfl (ybv 0 tabs rfl rfl rfl rfl rfl rfl rfl rfl rfl (by omega) (by omega) (by omega) rfl (by simp only [ti44]; omega)) rfl ?_ | refine ym ?_ | (refine AL.op rfl (yi rfl rfl rfl rfl rfl (by omega) (by omega)) ?_) | (refine AL.op rfl (ye tabs rfl rfl rfl rfl rfl rfl rfl (fun _ => rfl) (by decide) (by omega) (by omega)) ?_)) | ((with_reducible show DQ _ _ _ _ _ _); first | refine DQ.stepc (LS.val tabs rfl rfl rfl) rfl rfl rfl rfl rfl ?_ | refine DQ.stepc (yab rfl rfl) rfl rfl rfl rfl rfl ?_ | refine DQ.nilM (by kernel_rfl) ?_ | refine DQ.stepc (yaf rfl rfl rfl rfl rfl rfl (by omega) (by omega)) rfl rfl rfl rfl rfl ?_ | refine DQ.stepc (yaa tabs rfl rfl rfl rfl rfl rfl rfl rfl (fun _ => rfl) (by decide) (by omega) (by omega)) rfl rfl rfl rfl rfl ?_) | refine yn ?_ | refine yc ?_ | refine ya ?_ | refine yf ?_ | refine AW.block ?_ | refine yt ?_ | refine yh rfl ?_ | refine yg rfl ?_ | (refine yk rfl (fun hc => ?_) (fun hc => ?_) <;> (try simp only [hsx] at hc) <;> (try first | omega | contradiction | (simp [qa] at hc; done))) | refine yo ?_ | refine yy ?_ | refine yd ?_ | refine yp ?_ | refine yw ?_ | refine yr ?_ | refine InB.off rfl ?_ | refine yz ?_ | refine yu ?_ | refine yx mixed (by kernel_rfl) ?_))
  refine yak (α := Int) (fun i => ⟨[(2, .ptr 2 1 0 0), (3, .ptr 3 1 0 0), (12, .imm (.sl (f.map Node.iv))), (13, iav (List.map Node.iv f).length), (14, iav i)], [⟨44, 16, T.take i.toNat ++ List.replicate (f.length - i.toNat) ti44.zero⟩, ⟨24, 1, [[.imm (.sl (f.map Node.iv))]]⟩, ⟨24, 1, [[.nils]]⟩, ⟨24, 1, [[.os 0 f.length]]⟩]⟩) (fun i => 0 ≤ i ∧ i ≤ f.length) (fun i => (f.length - i).toNat) 0 (yae 4 (by rw [← hm]; rfl) (by repeat' (first | exact trivial | refine ⟨rfl, ?_⟩)) rfl (by simp only [qax]; exact ⟨qbk _ _ _ (qjb hTi _), rfl, rfl, rfl⟩) (by simp [cxG])) ⟨by omega, by omega⟩ ?_
  intro i ⟨h0, h2⟩
  (repeat' (first | ((with_reducible show AL _ _ _ _ _); first | (refine AL.step tabs rfl ?_; try dsimp only [len, List.nil_append, List.cons_append]) | refine ym ?_ | (refine AL.op rfl (yi rfl rfl rfl rfl rfl (by omega) (by omega)) ?_) | (refine AL.op rfl (ye tabs rfl rfl rfl rfl rfl rfl rfl (fun _ => rfl) (by decide) (by omega) (by omega)) ?_)) | ((with_reducible show DQ _ _ _ _ _ _); first | refine DQ.stepc (yai rfl rfl rfl rfl rfl (hcp i h0 (by omega)) rfl) rfl rfl rfl rfl rfl ?_ | refine DQ.stepc (yaq (b := ⟨44, 16, T.take i.toNat ++ List.replicate (f.length - i.toNat) ti44.zero⟩) tabs rfl rfl rfl rfl rfl rfl rfl rfl rfl (qap _ _ _ _ hT h0 h2).symm rfl (by omega) (by omega)) rfl rfl rfl rfl rfl ?_ | refine DQ.stepc (LS.store (i := ti44) (v := .agg (atI T i)) (ty := 44) (sz := 16) (rows := T.take i.toNat ++ List.replicate (f.length - i.toNat) ti44.zero) tabs rfl rfl rfl rfl rfl rfl rfl (qap _ _ _ _ hT h0 h2).symm (hTl _ (qa8 h0 (by omega))) (by simp only [avCells, List.all_eq_true]; exact fun c hc => qk9 (List.all_eq_true.1 (List.all_eq_true.1 hTi _ (qa8 h0 (by omega))) c hc)) (by decide) (qd3 _ _ _ _ hT h0 (by omega))) rfl rfl rfl rfl rfl ?_ | refine DQ.stepc (LS.val tabs rfl rfl rfl) rfl rfl rfl rfl rfl ?_ | refine DQ.stepc (yab rfl rfl) rfl rfl rfl rfl rfl ?_ | refine DQ.nilM (by kernel_rfl) ?_ | refine DQ.stepc (yaf rfl rfl rfl rfl rfl rfl (by omega) (by omega)) rfl rfl rfl rfl rfl ?_ | refine DQ.stepc (yaa tabs rfl rfl rfl rfl rfl rfl rfl rfl (fun _ => rfl) (by decide) (by omega) (by omega)) rfl rfl rfl rfl rfl ?_) | refine yn ?_ | refine yc ?_ | refine ya ?_ | refine yf ?_ | refine AW.block ?_ | refine yt ?_ | refine yh rfl ?_ | refine yg rfl ?_ | (refine yk rfl (fun hc => ?_) (fun hc => ?_) <;> (try simp only [hsx] at hc) <;> (try first | omega | contradiction | (simp [qa] at hc; done))) | refine yo ?_ | refine yy ?_ | refine yd ?_ | refine yp ?_ | refine yw ?_ | refine yr ?_ | refine InB.off rfl ?_ | refine yz ?_ | refine yu ?_ | refine yx mixed (by kernel_rfl) ?_))
  · refine yag (i + 1) (yae 4 (by rw [← take_set T ti44.zero f.length i hT h0 (by assumption)]; rfl) (by repeat' (first | exact trivial | refine ⟨rfl, ?_⟩)) rfl (by simp only [qax]; exact ⟨qbk _ _ _ (qjb hTi _), rfl, rfl, rfl⟩) (by simp [cxG])) ⟨by omega, by omega⟩ (by omega)
  · have e : T.take i.toNat ++ List.replicate (f.length - i.toNat) ti44.zero = T := by
      rw [qq (by omega), show f.length - i.toNat = 0 by omega]; simp
    refine yam 1 rfl rfl (by rw [e]; rfl) rfl ?_ (by simp [cxG])
    simp only [List.all_cons, List.all_nil, Bool.and_true]
    exact qjb hTi _
def rowsK (f : List Node) (p : Int) (k : AV) : List (List AV) := (f.map rowS).set p.toNat (nodeRow (atI f p) k)
theorem qaq (f : List Node) (p : Int) (k : AV) : (rowsK f p k).length = f.length := by unfold rowsK; simp
theorem qcs {α β : Type} [Inhabited α] [Inhabited β] (g : α → β) (l : List α) (i : Int) (h0 : 0 ≤ i) (h1 : i < l.length) : atI (l.map g) i = g (atI l i) := by
  have e1 := qaz h0 h1
  have e2 := qaz (xs := l.map g) h0 (by simpa using h1)
  rw [List.getElem?_map, e1] at e2
  exact (Option.some.inj e2).symm
theorem qaa (f : List Node) (p : Int) (k : AV) (hp : 0 ≤ p) (hp1 : p < f.length) (i : Int) (h0 : 0 ≤ i) (h1 : i < f.length) : atI (rowsK f p k) i = if i = p then nodeRow (atI f p) k else rowS (atI f i) := by
  unfold rowsK
  rw [qt _ _ _ _ hp (by simpa using hp1) h0, qcs _ _ _ h0 h1]
theorem qd4 {f : List Node} {p : Int} {k : AV} {r : List AV} (h : r ∈ rowsK f p k) : r = nodeRow (atI f p) k ∨ ∃ n ∈ f, r = rowS n := by
  unfold rowsK at h
  rcases List.mem_or_eq_of_mem_set h with h | h
  · obtain ⟨n, h1, h2⟩ := List.mem_map.1 h
    exact .inr ⟨n, h1, h2.symm⟩
  · exact .inl h
theorem qao (n : Node) (k : Nat) : (rowS n).all (AV.sc1 k) = true := rfl
theorem qad (f : List Node) (p : Int) (k : AV) (m : Nat) (h : k.sc1 m = true) : (rowsK f p k).all (fun r => r.all (AV.sc1 m)) = true := by
  rw [List.all_eq_true]
  intro r hr
  rcases qd4 hr with rfl | ⟨n, _, rfl⟩
  · unfold nodeRow
    simp only [List.all_cons, List.all_nil, h]
    rfl
  · exact qao n m
theorem qfv (f : List Node) (p : Int) (hf : Fit f) (hp : 0 ≤ p) (hp1 : p < f.length) (hk : (atI f p).kids ≠ []) : GenC Tryz.prog 70 [⟨44, 16, []⟩, ⟨3, 1, []⟩] [fav f] (.agg [.os 0 f.length]) [⟨44, 16, rowsK f p (.os 1 (atI f p).kids.length)⟩, ⟨3, 1, (atI f p).kids.map cI⟩] := by
  have hl := hf.len
  have hm : (List.map Node.iv f).length = f.length := List.length_map _
  obtain ⟨T, hT0⟩ : ∃ T, T = rowsK f p (.os 1 (atI f p).kids.length) := ⟨_, rfl⟩
  rw [← hT0]
  have hT : T.length = f.length := by rw [hT0, qaq]
  have hat : ∀ i : Int, 0 ≤ i → i < f.length → atI T i = if i = p then nodeRow (atI f p) (.os 1 (atI f p).kids.length) else rowS (atI f i) := fun i h0 h1 => by rw [hT0]; exact qaa f p _ hp hp1 i h0 h1
  have hsc : ∀ k, 2 ≤ k → T.all (fun r => r.all (AV.sc1 k)) = true := fun k hk => by
    rw [hT0]; exact qad f p _ k (by simp only [AV.sc1, AV.sc0, Nat.blt_eq]; omega)
  clear hT0
  obtain ⟨K, hK⟩ : ∃ K : Int → List Int, ∀ i, K i = if p < i then (atI f p).kids else [] := ⟨fun i => if p < i then (atI f p).kids else [], fun _ => rfl⟩
  have eR : ∀ m : Nat, ((atI f p).kids.map cI).map (·.map (ren1 (rho [1] m))) = (atI f p).kids.map cI := by
    intro m; simp [cI, iav, ren1, ren0]
  have hz : ∀ k, (ti44.zero.all (AV.sc1 k)) = true := fun k => rfl
  refine yaj tabs Tryz.func70 27 [.cell 2 24] rfl rfl rfl rfl rfl ?_; intro w0 X γ κ
  (repeat' (first | ((with_reducible show AL _ _ _ _ _); first | (refine AL.step tabs rfl ?_; try dsimp only [len, List.nil_append, List.cons_append]) | refine yad rfl (ybv 0 tabs rfl rfl rfl rfl rfl rfl rfl rfl rfl (by omega) (by omega) (by omega) rfl (by simp only [ti44]; omega)) rfl ?_ | refine ym ?_ | (refine AL.op rfl (yi rfl rfl rfl rfl rfl (by omega) (by omega)) ?_) | (refine AL.op rfl (ye tabs rfl rfl rfl rfl rfl rfl rfl (fun _ => rfl) (by decide) (by omega) (by omega)) ?_)) | ((with_reducible show DQ _ _ _ _ _ _); first | refine DQ.stepc (LS.val tabs rfl rfl rfl) rfl rfl rfl rfl rfl ?_ | refine DQ.stepc (yab rfl rfl) rfl rfl rfl rfl rfl ?_ | refine DQ.nilM (by kernel_rfl) ?_ | refine DQ.stepc (yaf rfl rfl rfl rfl rfl rfl (by omega) (by omega)) rfl rfl rfl rfl rfl ?_ | refine DQ.stepc (yaa tabs rfl rfl rfl rfl rfl rfl rfl rfl (fun _ => rfl) (by decide) (by omega) (by omega)) rfl rfl rfl rfl rfl ?_) | refine yn ?_ | refine yc ?_ | refine ya ?_ | refine yf ?_ | refine AW.block ?_ | refine yt ?_ | refine yh rfl ?_ | refine yg rfl ?_ | (refine yk rfl (fun hc => ?_) (fun hc => ?_) <;> (try simp only [hsx] at hc) <;> (try first | omega | contradiction | (simp [qa] at hc; done))) | refine yo ?_ | refine yy ?_ | refine yd ?_ | refine yp ?_ | refine yw ?_ | refine yr ?_ | refine InB.off rfl ?_ | refine yz ?_ | refine yu ?_ | refine yx mixed (by kernel_rfl) ?_))
  refine yak (α := Int) (fun i => ⟨[(2, .ptr 3 1 0 0), (3, .ptr 4 1 0 0), (12, .imm (.sl (f.map Node.iv))), (13, iav (List.map Node.iv f).length), (14, iav i)], [⟨44, 16, T.take i.toNat ++ List.replicate (f.length - i.toNat) ti44.zero⟩, ⟨3, 1, (K i).map cI⟩, ⟨24, 1, [[.imm (.sl (f.map Node.iv))]]⟩, ⟨24, 1, [[.nils]]⟩, ⟨24, 1, [[.os 0 f.length]]⟩]⟩) (fun i => 0 ≤ i ∧ i ≤ f.length) (fun i => (f.length - i).toNat) 0 (yae 5 (by rw [hK, if_neg (by omega), ← hm]; rfl) (by repeat' (first | exact trivial | refine ⟨rfl, ?_⟩)) rfl (by simp only [qax]; exact ⟨qbk _ _ _ (hsc _ (by omega)), (by simp only [List.all_cons, List.all_nil, List.all_map, Function.comp_def, cI, cB, iav, bav, AV.sc1, AV.sc0, Bool.and_true, Bool.and_self, qf]; try rfl), rfl, rfl, rfl⟩) (by simp [cxG])) ⟨by omega, by omega⟩ ?_
  intro i ⟨h0, h2⟩
  by_cases hip : i = p
  · subst hip
    have e1 : K i = [] := by rw [hK, if_neg (by omega)]
    have e2 : K (i + 1) = (atI f i).kids := by rw [hK, if_pos (by omega)]
    have e3 := hat i hp hp1
    rw [if_pos rfl] at e3
    rw [e1]
    (repeat' (first | ((with_reducible show AL _ _ _ _ _); first | (refine AL.step tabs rfl ?_; try dsimp only [len, List.nil_append, List.cons_append]) | refine ym ?_ | (refine AL.op rfl (yi rfl rfl rfl rfl rfl (by omega) (by omega)) ?_) | (refine AL.op rfl (ye tabs rfl rfl rfl rfl rfl rfl rfl (fun _ => rfl) (by decide) (by omega) (by omega)) ?_)) | ((with_reducible show DQ _ _ _ _ _ _); first | refine DQ.stepc (LS.callG1 1 (r' := .agg (nodeRow (atI f i) (.os 1 (atI f i).kids.length))) rfl rfl rfl rfl rfl (qgt (atI f i) (hf.atI i hp hp1) hk) rfl (fun _ => rfl) rfl rfl rfl (by simp only [List.all_cons, List.all_nil, List.all_map, Function.comp_def, cI, cB, iav, bav, AV.sc1, AV.sc0, Bool.and_true, Bool.and_self, qf]; try rfl) (bA := ⟨3, 1, (atI f i).kids.map cI⟩) (fun n => by simp only [renB, eR]) (fun _ => rfl)) rfl rfl rfl rfl rfl ?_ | refine DQ.stepc (yaq (b := ⟨44, 16, T.take i.toNat ++ List.replicate (f.length - i.toNat) ti44.zero⟩) tabs rfl rfl rfl rfl rfl rfl rfl rfl rfl (qap _ _ _ _ hT h0 h2).symm rfl (by omega) (by omega)) rfl rfl rfl rfl rfl ?_ | refine DQ.stepc (LS.store (i := ti44) (v := .agg (nodeRow (atI f i) (.os 1 (atI f i).kids.length))) (ty := 44) (sz := 16) (rows := T.take i.toNat ++ List.replicate (f.length - i.toNat) ti44.zero) tabs rfl rfl rfl rfl rfl rfl rfl (qap _ _ _ _ hT h0 h2).symm rfl rfl (by decide) (qd3 _ _ _ _ hT h0 (by omega))) rfl rfl rfl rfl rfl ?_ | refine DQ.stepc (LS.val tabs rfl rfl rfl) rfl rfl rfl rfl rfl ?_ | refine DQ.stepc (yab rfl rfl) rfl rfl rfl rfl rfl ?_ | refine DQ.nilM (by kernel_rfl) ?_ | refine DQ.stepc (yaf rfl rfl rfl rfl rfl rfl (by omega) (by omega)) rfl rfl rfl rfl rfl ?_ | refine DQ.stepc (yaa tabs rfl rfl rfl rfl rfl rfl rfl rfl (fun _ => rfl) (by decide) (by omega) (by omega)) rfl rfl rfl rfl rfl ?_) | refine yn ?_ | refine yc ?_ | refine ya ?_ | refine yf ?_ | refine AW.block ?_ | refine yt ?_ | refine yh rfl ?_ | refine yg rfl ?_ | (refine yk rfl (fun hc => ?_) (fun hc => ?_) <;> (try simp only [hsx] at hc) <;> (try first | omega | contradiction | (simp [qa] at hc; done))) | refine yo ?_ | refine yy ?_ | refine yd ?_ | refine yp ?_ | refine yw ?_ | refine yr ?_ | refine InB.off rfl ?_ | refine yz ?_ | refine yu ?_ | refine yx mixed (by kernel_rfl) ?_))
    refine yag (i + 1) (yae 5 (by rw [← take_set T ti44.zero f.length i hT h0 (by assumption), e2, e3]; rfl) (by repeat' (first | exact trivial | refine ⟨rfl, ?_⟩)) rfl (by simp only [qax]; exact ⟨qbk _ _ _ (hsc _ (by omega)), (by simp only [List.all_cons, List.all_nil, List.all_map, Function.comp_def, cI, cB, iav, bav, AV.sc1, AV.sc0, Bool.and_true, Bool.and_self, qf]; try rfl), rfl, rfl, rfl⟩) (by simp [cxG])) ⟨by omega, by omega⟩ (by omega)
  · have e2 : i < f.length → K (i + 1) = K i := fun hi => by
      rw [hK, hK]
      by_cases h : p < i
      · rw [if_pos (by omega), if_pos h]
      · rw [if_neg (by omega), if_neg h]
    have e3 : i < f.length → atI T i = rowS (atI f i) := fun hi => by rw [hat i h0 hi, if_neg hip]
    (repeat' (first | ((with_reducible show AL _ _ _ _ _); first | (refine AL.step tabs rfl ?_; try dsimp only [len, List.nil_append, List.cons_append]) | refine ym ?_ | (refine AL.op rfl (yi rfl rfl rfl rfl rfl (by omega) (by omega)) ?_) | (refine AL.op rfl (ye tabs rfl rfl rfl rfl rfl rfl rfl (fun _ => rfl) (by decide) (by omega) (by omega)) ?_)) | ((with_reducible show DQ _ _ _ _ _ _); first | refine DQ.stepc (yai rfl rfl rfl rfl rfl (qbf (atI f i) (hf.atI i h0 (by omega))) rfl) rfl rfl rfl rfl rfl ?_ | refine DQ.stepc (yaq (b := ⟨44, 16, T.take i.toNat ++ List.replicate (f.length - i.toNat) ti44.zero⟩) tabs rfl rfl rfl rfl rfl rfl rfl rfl rfl (qap _ _ _ _ hT h0 h2).symm rfl (by omega) (by omega)) rfl rfl rfl rfl rfl ?_ | refine DQ.stepc (LS.store (i := ti44) (v := .agg (rowS (atI f i))) (ty := 44) (sz := 16) (rows := T.take i.toNat ++ List.replicate (f.length - i.toNat) ti44.zero) tabs rfl rfl rfl rfl rfl rfl rfl (qap _ _ _ _ hT h0 h2).symm rfl rfl (by decide) (qd3 _ _ _ _ hT h0 (by omega))) rfl rfl rfl rfl rfl ?_ | refine DQ.stepc (LS.val tabs rfl rfl rfl) rfl rfl rfl rfl rfl ?_ | refine DQ.stepc (yab rfl rfl) rfl rfl rfl rfl rfl ?_ | refine DQ.nilM (by kernel_rfl) ?_ | refine DQ.stepc (yaf rfl rfl rfl rfl rfl rfl (by omega) (by omega)) rfl rfl rfl rfl rfl ?_ | refine DQ.stepc (yaa tabs rfl rfl rfl rfl rfl rfl rfl rfl (fun _ => rfl) (by decide) (by omega) (by omega)) rfl rfl rfl rfl rfl ?_) | refine yn ?_ | refine yc ?_ | refine ya ?_ | refine yf ?_ | refine AW.block ?_ | refine yt ?_ | refine yh rfl ?_ | refine yg rfl ?_ | (refine yk rfl (fun hc => ?_) (fun hc => ?_) <;> (try simp only [hsx] at hc) <;> (try first | omega | contradiction | (simp [qa] at hc; done))) | refine yo ?_ | refine yy ?_ | refine yd ?_ | refine yp ?_ | refine yw ?_ | refine yr ?_ | refine InB.off rfl ?_ | refine yz ?_ | refine yu ?_ | refine yx mixed (by kernel_rfl) ?_))
    · refine yag (i + 1) (yae 5 (by rw [← take_set T ti44.zero f.length i hT h0 (by assumption), e2 (by assumption), e3 (by assumption)]; rfl) (by repeat' (first | exact trivial | refine ⟨rfl, ?_⟩)) rfl (by simp only [qax]; exact ⟨qbk _ _ _ (hsc _ (by omega)), (by simp only [List.all_cons, List.all_nil, List.all_map, Function.comp_def, cI, cB, iav, bav, AV.sc1, AV.sc0, Bool.and_true, Bool.and_self, qf]; try rfl), rfl, rfl, rfl⟩) (by simp [cxG])) ⟨by omega, by omega⟩ (by omega)
    · have e : T.take i.toNat ++ List.replicate (f.length - i.toNat) ti44.zero = T := by
        rw [qq (by omega), show f.length - i.toNat = 0 by omega]; simp
      have e4 : K i = (atI f p).kids := by rw [hK, if_pos (by omega)]
      refine yam 2 rfl rfl (by rw [e, e4]; rfl) rfl ?_ (by simp [cxG])
      simp only [qax]
      exact ⟨hsc _ (by omega), (by simp only [List.all_cons, List.all_nil, List.all_map, Function.comp_def, cI, cB, iav, bav, AV.sc1, AV.sc0, Bool.and_true, Bool.and_self, qf]; try rfl)⟩
theorem qmy (l : List Int) (x : Int) (hl : l.length ≤ 1000000000) : GenC Tryz.prog 150 [⟨3, 1, l.map cI⟩, ⟨3, 1, [cI x]⟩] [.os 0 l.length, iav l.length, .os 1 1] (.os 0 (l ++ [x]).length) [⟨3, 1, (l ++ [x]).map cI⟩, ⟨3, 1, [cI x]⟩] := by
  refine yaj tabs Tryz.func150 95 [.tmp 6] rfl rfl rfl rfl rfl ?_; intro w0 X γ κ
  (repeat' (first | ((with_reducible show AL _ _ _ _ _); first | refine yad rfl (ybe (n := l.length) tabs rfl rfl rfl rfl rfl (qoe (b := ⟨3, 1, l.map cI⟩) rfl rfl (by simp)) rfl rfl) rfl ?_ | (refine AL.step tabs rfl ?_; try dsimp only [len, List.nil_append, List.cons_append]) | refine yad rfl (yau (b := ⟨3, 1, l.map cI⟩) tabs rfl rfl rfl rfl rfl rfl (by simp)) rfl ?_ | refine yad rfl (yar (ie := ti3) (xs := l) (ty := 3) (sz := 1) tabs rfl rfl rfl rfl rfl rfl (g := cI) (ys := [x]) rfl rfl rfl rfl (SrcA.own tabs rfl rfl rfl (b := ⟨3, 1, [x].map cI⟩) rfl (by simp) rfl (by simp [cI, ti3]) (by simp [cI, iav, AV.cell])) (by simp [ti3]; omega) (by simp; omega)) rfl ?_ | refine ym ?_ | (refine AL.op rfl (yi rfl rfl rfl rfl rfl (by omega) (by omega)) ?_)) | ((with_reducible show DQ _ _ _ _ _ _); first | refine DQ.stepc (LS.val tabs rfl rfl rfl) rfl rfl rfl rfl rfl ?_ | refine DQ.stepc (yab rfl rfl) rfl rfl rfl rfl rfl ?_ | refine DQ.nilM (by kernel_rfl) ?_ | refine DQ.stepc (yaf rfl rfl rfl rfl rfl rfl (by omega) (by omega)) rfl rfl rfl rfl rfl ?_) | refine yn ?_ | refine yc ?_ | refine ya ?_ | refine yf ?_ | refine yh rfl ?_ | refine yg rfl ?_ | (refine yk rfl (fun hc => ?_) (fun hc => ?_) <;> (try simp only [hsx] at hc) <;> (try first | omega | contradiction | (simp [qa] at hc; done))) | refine yo ?_ | refine yd ?_ | refine yx mixed (by kernel_rfl) ?_))
  refine yam 2 rfl rfl rfl rfl ?_ (by simp [cxG])
  exact (by simp only [List.all_cons, List.all_nil, List.all_map, Function.comp_def, cI, cB, iav, bav, AV.sc1, AV.sc0, Bool.and_true, Bool.and_self, qf]; try rfl)
theorem qoj (x : Int) : GenC Tryz.prog 150 [⟨3, 1, []⟩, ⟨3, 1, [cI x]⟩] [.nocap, iav 0, .os 1 1] (.os 0 1) [⟨3, 1, [cI x]⟩, ⟨3, 1, [cI x]⟩] := by
  refine yaj tabs Tryz.func150 95 [.tmp 6] rfl rfl rfl rfl rfl ?_; intro w0 X γ κ
  (repeat' (first | ((with_reducible show AL _ _ _ _ _); first | refine yad rfl (ybe (n := 0) tabs rfl rfl rfl rfl rfl (qdg rfl) rfl rfl) rfl ?_ | (refine AL.step tabs rfl ?_; try dsimp only [len, List.nil_append, List.cons_append]) | refine yad rfl (yba tabs rfl rfl rfl rfl rfl) rfl ?_ | refine yad rfl (yax 0 (ie := ti3) tabs rfl rfl rfl rfl rfl (by decide) rfl rfl rfl (rows2 := [cI x]) (by simp) (SrcA.own tabs rfl rfl rfl (b := ⟨3, 1, [cI x]⟩) rfl (by simp) rfl (by simp [cI, ti3]) (by simp [cI, iav, AV.cell])) (by simp [ti3]) (by simp)) rfl ?_ | refine ym ?_ | (refine AL.op rfl (yi rfl rfl rfl rfl rfl (by omega) (by omega)) ?_)) | ((with_reducible show DQ _ _ _ _ _ _); first | refine DQ.stepc (LS.val tabs rfl rfl rfl) rfl rfl rfl rfl rfl ?_ | refine DQ.stepc (yab rfl rfl) rfl rfl rfl rfl rfl ?_ | refine DQ.nilM (by kernel_rfl) ?_ | refine DQ.stepc (yaf rfl rfl rfl rfl rfl rfl (by omega) (by omega)) rfl rfl rfl rfl rfl ?_) | refine yn ?_ | refine yc ?_ | refine ya ?_ | refine yf ?_ | refine yh rfl ?_ | refine yg rfl ?_ | (refine yk rfl (fun hc => ?_) (fun hc => ?_) <;> (try simp only [hsx] at hc) <;> (try first | omega | contradiction | (simp [qa] at hc; done))) | refine yo ?_ | refine yd ?_ | refine yx mixed (by kernel_rfl) ?_))
  refine yam 2 rfl rfl rfl rfl ?_ (by simp [cxG])
  exact (by simp only [List.all_cons, List.all_nil, List.all_map, Function.comp_def, cI, cB, iav, bav, AV.sc1, AV.sc0, Bool.and_true, Bool.and_self, qf]; try rfl)
theorem qgu (f : List Node) (R : List (List AV)) (K : List Int) (c : Change) (hR : R.length = f.length) (hl : f.length ≤ 1000000000) (hsc : R.all (fun r => r.all (AV.sc1 3)) = true) (h1 : 1 ≤ c.node) (h2 : c.node ≤ f.length) (h3 : 1 ≤ c.parent) (h4 : c.parent ≤ f.length) : GenC Tryz.prog 149 [⟨24, 1, [[.os 1 f.length]]⟩, ⟨44, 16, R⟩, ⟨3, 1, K.map cI⟩] [.ptr 0 1 0 0, c.av] (.tup [.ptr 1 f.length (c.node - 1).toNat 0, .ptr 1 f.length (c.parent - 1).toNat 0]) [⟨24, 1, [[.os 1 f.length]]⟩, ⟨44, 16, R⟩, ⟨3, 1, K.map cI⟩] := by
  refine yaj tabs Tryz.func149 50 [.tmp 4, .tmp 5] rfl rfl rfl rfl rfl ?_; intro w0 X γ κ
  (repeat' (first | ((with_reducible show AL _ _ _ _ _); first | (refine AL.step tabs rfl ?_; try dsimp only [len, List.nil_append, List.cons_append]) | refine ym ?_ | (refine yj rfl rfl rfl (fun hc => ?_) (fun hc => ?_) <;> (fail_if_success (exact absurd hc (by decide))) <;> (try simp only [hsx] at hc) <;> (try first | omega | contradiction | (simp [qa] at hc; done))) | (refine AL.op rfl (yi rfl rfl rfl rfl rfl (by omega) (by omega)) ?_) | (refine AL.op rfl (ye tabs rfl rfl rfl rfl rfl rfl rfl (fun _ => rfl) (by decide) (by omega) (by omega)) ?_)) | ((with_reducible show DQ _ _ _ _ _ _); first | refine DQ.stepc (yb4 (b := ⟨44, 16, R⟩) tabs rfl rfl rfl rfl rfl rfl rfl hR.symm) rfl rfl rfl rfl rfl ?_ | refine DQ.stepc (yaq (b := ⟨44, 16, R⟩) tabs rfl rfl rfl rfl rfl rfl rfl rfl rfl hR.symm rfl (by omega) (by omega)) rfl rfl rfl rfl rfl ?_ | refine DQ.stepc (LS.val tabs rfl rfl rfl) rfl rfl rfl rfl rfl ?_ | refine DQ.stepc (yab rfl rfl) rfl rfl rfl rfl rfl ?_ | refine DQ.nilM (by kernel_rfl) ?_ | refine DQ.stepc (yaf rfl rfl rfl rfl rfl rfl (by omega) (by omega)) rfl rfl rfl rfl rfl ?_ | refine DQ.stepc (yaa tabs rfl rfl rfl rfl rfl rfl rfl rfl (fun _ => rfl) (by decide) (by omega) (by omega)) rfl rfl rfl rfl rfl ?_ | (refine DQ.gsplitE rfl rfl rfl (fun hc => ?_) (fun hc => ?_) <;> (fail_if_success (exact absurd hc (by decide))) <;> (try simp only [hsx] at hc) <;> (try first | omega | contradiction | (simp [qa] at hc; done)))) | refine yn ?_ | refine yc ?_ | refine ya ?_ | refine yf ?_ | refine yh rfl ?_ | refine yg rfl ?_ | (refine yk rfl (fun hc => ?_) (fun hc => ?_) <;> (try simp only [hsx] at hc) <;> (try first | omega | contradiction | (simp [qa] at hc; done))) | refine yo ?_ | refine yd ?_ | refine yx mixed (by kernel_rfl) ?_))
  refine yam 3 rfl rfl rfl rfl ?_ (by simp [cxG])
  simp only [qax]
  exact ⟨rfl, hsc, (by simp only [List.all_cons, List.all_nil, List.all_map, Function.comp_def, cI, cB, iav, bav, AV.sc1, AV.sc0, Bool.and_true, Bool.and_self, qf]; try rfl)⟩
theorem u153 : Tryz.prog.underlying 153 = some (.pointer (Tryz.prog.pointee 153)) := by kernel_rfl
theorem qc7 {k : Nat} {ρ : Nat → Nat} (h : ∀ i, i < k → ρ i = i) {v : AV} (hv : v.sc0 k = true) : ren0 ρ v = v := by
  cases v <;> first
    | rfl
    | (simp only [AV.sc0, Nat.blt_eq] at hv; simp only [ren0, h _ hv])
theorem map_id' {α : Type} {g : α → α} : ∀ {l : List α}, (∀ x ∈ l, g x = x) → l.map g = l
  | [], _ => rfl
  | x :: l, h => by rw [List.map_cons, h x (by simp), map_id' fun y hy => h y (by simp [hy])]
theorem qni {k : Nat} {ρ : Nat → Nat} (h : ∀ i, i < k → ρ i = i) {v : AV} (hv : v.sc1 k = true) : ren1 ρ v = v := by
  cases v with
  | fn f l => simp only [ren1]; rw [map_id' fun x hx => qc7 h (List.all_eq_true.1 hv x hx)]
  | agg l => simp only [ren1]; rw [map_id' fun x hx => qc7 h (List.all_eq_true.1 hv x hx)]
  | tup l => simp only [ren1]; rw [map_id' fun x hx => qc7 h (List.all_eq_true.1 hv x hx)]
  | ptr a b c d => exact qc7 (v := .ptr a b c d) h hv
  | os a b => exact qc7 (v := .os a b) h hv
  | sub a b c d => exact qc7 (v := .sub a b c d) h hv
  | _ => rfl
theorem qk {k : Nat} {ρ : Nat → Nat} (h : ∀ i, i < k → ρ i = i) {ty sz : Nat} {R : List (List AV)} (hR : R.all (fun r => r.all (AV.sc1 k)) = true) : renB ρ ⟨ty, sz, R⟩ = ⟨ty, sz, R⟩ := by
  unfold renB
  congr 1
  exact map_id' fun r hr => map_id' fun v hv => qni h (List.all_eq_true.1 (List.all_eq_true.1 hR r hr) v hv)
theorem rho3 (n : Nat) : ∀ i, i < 3 → rho [0, 1, 2] n i = i := by
  intro i hi
  match i, hi with
  | 0, _ => rfl
  | 1, _ => rfl
  | 2, _ => rfl
theorem qbu (l : List Int) (k : Nat) : (l.map cI).all (fun r => r.all (AV.sc1 k)) = true := (by simp only [List.all_cons, List.all_nil, List.all_map, Function.comp_def, cI, cB, iav, bav, AV.sc1, AV.sc0, Bool.and_true, Bool.and_self, qf]; try rfl)
def updAt (f : List Node) (i : Int) (n : Node) : List Node := f.set i.toNat n
def insF (f : List Node) (node parent : Int) : List Node :=
  updAt (updAt f (parent - 1) { atI f (parent - 1) with kids := (atI f (parent - 1)).kids ++ [node] }) (node - 1)
    { atI (updAt f (parent - 1) { atI f (parent - 1) with kids := (atI f (parent - 1)).kids ++ [node] }) (node - 1) with parent := parent }
theorem qdj (f : List Node) (node parent : Int) : (insF f node parent).length = f.length := by unfold insF updAt; simp
theorem qe8 {α : Type} [Inhabited α] {a b : List α} (h : a.length = b.length) (h2 : ∀ i : Int, 0 ≤ i → i < a.length → atI a i = atI b i) : a = b := by
  apply List.ext_getElem?
  intro j
  rcases Nat.lt_or_ge j a.length with hj | hj
  · have e1 := qaz (xs := a) (j := (j : Int)) (by omega) (by omega)
    have e2 := qaz (xs := b) (j := (j : Int)) (by omega) (by omega)
    simp only [Int.toNat_natCast] at e1 e2
    rw [e1, e2, h2 j (by omega) (by omega)]
  · rw [List.getElem?_eq_none hj, List.getElem?_eq_none (by omega)]
theorem qav {α : Type} [Inhabited α] {xs : List α} {j : Int} (h0 : 0 ≤ j) (h1 : j < xs.length) {x : α} (h : atI xs j = x) : xs[j.toNat]? = some x := by rw [qaz h0 h1, h]
theorem qn (ρ : Nat → Nat) (ty sz : Nat) (l : List Int) : renB ρ ⟨ty, sz, l.map cI⟩ = ⟨ty, sz, l.map cI⟩ := by
  unfold renB
  congr 1
  simp [cI, iav, ren1, ren0]
theorem qjc (f : List Node) (c : Change) (hf : Fit f) (h1 : 1 ≤ c.node) (h2 : c.node ≤ f.length) (h3 : 1 ≤ c.parent) (h4 : c.parent ≤ f.length) (hidx : c.index = (atI f (c.parent - 1)).kids.length) (hk : (atI f (c.parent - 1)).kids ≠ []) (hp0 : (atI f (c.node - 1)).parent = 0) : GenC Tryz.prog 113 [⟨24, 1, [[.os 1 f.length]]⟩, ⟨44, 16, rowsK f (c.parent - 1) (.os 2 (atI f (c.parent - 1)).kids.length)⟩, ⟨3, 1, (atI f (c.parent - 1)).kids.map cI⟩] [.ptr 0 1 0 0, c.av] (bav true) [⟨24, 1, [[.os 1 f.length]]⟩, ⟨44, 16, rowsK (insF f c.node c.parent) (c.parent - 1) (.os 2 ((atI f (c.parent - 1)).kids ++ [c.node]).length)⟩, ⟨3, 1, ((atI f (c.parent - 1)).kids ++ [c.node]).map cI⟩] := by
  have hl := hf.len
  have hR := qaq f (c.parent - 1) (.os 2 (atI f (c.parent - 1)).kids.length)
  have hsc : (rowsK f (c.parent - 1) (.os 2 (atI f (c.parent - 1)).kids.length)).all (fun r => r.all (AV.sc1 3)) = true := qad f _ _ 3 rfl
  have eN : ∀ n, renB (rho [0, 1, 2] n) ⟨44, 16, rowsK f (c.parent - 1) (.os 2 (atI f (c.parent - 1)).kids.length)⟩ = ⟨44, 16, rowsK f (c.parent - 1) (.os 2 (atI f (c.parent - 1)).kids.length)⟩ := fun n => qk (rho3 n) hsc
  have eK : ∀ n, renB (rho [0, 1, 2] n) ⟨3, 1, (atI f (c.parent - 1)).kids.map cI⟩ = ⟨3, 1, (atI f (c.parent - 1)).kids.map cI⟩ := fun n => qn _ _ _ _
  obtain ⟨nd, hnd⟩ : ∃ nd, nd = atI f (c.node - 1) := ⟨_, rfl⟩
  rw [← hnd] at hp0
  obtain ⟨kk, hkk, hnode⟩ : ∃ kk : AV, kk = (if c.node - 1 = c.parent - 1 then (.os 2 (atI f (c.parent - 1)).kids.length) else .imm (.sl (nd.kids.map i64))) ∧ atI (rowsK f (c.parent - 1) (.os 2 (atI f (c.parent - 1)).kids.length)) (c.node - 1) = nodeRow nd kk := by
    refine ⟨_, rfl, ?_⟩
    rw [qaa f _ _ (by omega) (by omega) _ (by omega) (by omega), hnd]
    split
    · rename_i e; rw [e]
    · rfl
  have hpar : atI (rowsK f (c.parent - 1) (.os 2 (atI f (c.parent - 1)).kids.length)) (c.parent - 1) = nodeRow (atI f (c.parent - 1)) (.os 2 (atI f (c.parent - 1)).kids.length) := by
    rw [qaa f _ _ (by omega) (by omega) _ (by omega) (by omega), if_pos rfl]
  obtain ⟨R1, hR1⟩ : ∃ R1, R1 = (rowsK f (c.parent - 1) (.os 2 (atI f (c.parent - 1)).kids.length)).set (c.parent - 1).toNat (nodeRow (atI f (c.parent - 1)) (.os 2 ((atI f (c.parent - 1)).kids ++ [c.node]).length)) := ⟨_, rfl⟩
  have hR1l : R1.length = f.length := by rw [hR1, List.length_set, hR]
  obtain ⟨kk2, hkk2, hnode2⟩ : ∃ kk2 : AV, kk2 = (if c.node - 1 = c.parent - 1 then (.os 2 ((atI f (c.parent - 1)).kids ++ [c.node]).length) else .imm (.sl (nd.kids.map i64))) ∧ atI R1 (c.node - 1) = nodeRow nd kk2 := by
    refine ⟨_, rfl, ?_⟩
    rw [hR1, qt _ _ _ _ (by omega) (by omega) (by omega), hnd]
    split
    · rename_i e; rw [e]
    · rename_i e
      rw [qaa f _ _ (by omega) (by omega) _ (by omega) (by omega), if_neg e]; rfl
  have hfin : R1.set (c.node - 1).toNat (nodeRow { nd with parent := c.parent } kk2) = rowsK (insF f c.node c.parent) (c.parent - 1) (.os 2 ((atI f (c.parent - 1)).kids ++ [c.node]).length) := by
    have hil := qdj f c.node c.parent
    have hul : ∀ n, (updAt f (c.parent - 1) n).length = f.length := fun n => by unfold updAt; simp
    refine qe8 (by rw [List.length_set, qaq, hil, hR1l]) fun i g0 g1 => ?_
    rw [List.length_set] at g1
    rw [qt _ _ _ _ (by omega) (by omega) g0, qaa _ _ _ (by omega) (by omega) _ g0 (by omega)]
    have hat : ∀ j : Int, 0 ≤ j → j < f.length → atI (insF f c.node c.parent) j = if j = c.node - 1 then { (if c.node - 1 = c.parent - 1 then { atI f (c.parent - 1) with kids := (atI f (c.parent - 1)).kids ++ [c.node] } else atI f (c.node - 1)) with parent := c.parent } else if j = c.parent - 1 then { atI f (c.parent - 1) with kids := (atI f (c.parent - 1)).kids ++ [c.node] } else atI f j := by
      intro j j0 j1
      unfold insF
      rw [show updAt (updAt f (c.parent - 1) { atI f (c.parent - 1) with kids := (atI f (c.parent - 1)).kids ++ [c.node] }) (c.node - 1) { atI (updAt f (c.parent - 1) { atI f (c.parent - 1) with kids := (atI f (c.parent - 1)).kids ++ [c.node] }) (c.node - 1) with parent := c.parent } = (updAt f (c.parent - 1) { atI f (c.parent - 1) with kids := (atI f (c.parent - 1)).kids ++ [c.node] }).set (c.node - 1).toNat { atI (updAt f (c.parent - 1) { atI f (c.parent - 1) with kids := (atI f (c.parent - 1)).kids ++ [c.node] }) (c.node - 1) with parent := c.parent } from rfl]
      rw [qt _ _ _ _ (by omega) (by rw [hul]; omega) j0]
      unfold updAt
      rw [qt _ _ _ _ (by omega) (by omega) (by omega), qt _ _ _ _ (by omega) (by omega) j0]
    by_cases e1 : i = c.node - 1
    · rw [if_pos e1]
      by_cases e2 : c.node - 1 = c.parent - 1
      · rw [if_pos (by omega), hat _ (by omega) (by omega), if_pos (by omega), if_pos e2, hkk2, if_pos e2, hnd, e2]; rfl
      · rw [if_neg (by omega), hat _ g0 (by omega), if_pos e1, if_neg e2, hkk2, if_neg e2, hnd]; rfl
    · rw [if_neg e1, hR1, qt _ _ _ _ (by omega) (by omega) g0]
      by_cases e2 : i = c.parent - 1
      · rw [if_pos e2, if_pos e2, hat _ (by omega) (by omega), if_neg (by omega), if_pos rfl]; rfl
      · rw [if_neg e2, if_neg e2, qaa f _ _ (by omega) (by omega) _ g0 (by omega), if_neg e2, hat _ g0 (by omega), if_neg e1, if_neg e2]
  have hscF : (rowsK (insF f c.node c.parent) (c.parent - 1) (.os 2 ((atI f (c.parent - 1)).kids ++ [c.node]).length)).all (fun r => r.all (AV.sc1 3)) = true := qad _ _ _ 3 rfl
  have gnode := qav (by omega) (by omega) hnode
  have gpar := qav (by omega) (by omega) hpar
  have gnode2 := qav (by omega) (by omega) hnode2
  refine yaj tabs Tryz.func113 55 [.tmp 4] rfl rfl rfl rfl rfl ?_; intro w0 X γ κ
  refine AW.reserve 3 1 rfl ?_
  (repeat' (first | ((with_reducible show AL _ _ _ _ _); first | (refine AL.step tabs rfl ?_; try dsimp only [len, List.nil_append, List.cons_append]) | refine yac [0, 1, 2] 5 rfl rfl rfl rfl rfl (caps := []) rfl (qgu f (rowsK f (c.parent - 1) (.os 2 (atI f (c.parent - 1)).kids.length)) (atI f (c.parent - 1)).kids c hR hl hsc h1 h2 h3 h4) rfl (by simp only [List.map_cons, List.map_nil, eN, eK]; rfl) rfl rfl (by simp only [qax]; exact ⟨rfl, hsc, (by simp only [List.all_cons, List.all_nil, List.all_map, Function.comp_def, cI, cB, iav, bav, AV.sc1, AV.sc0, Bool.and_true, Bool.and_self, qf]; try rfl)⟩) rfl (by simp only [qax]; exact ⟨rfl, hsc, (by simp only [List.all_cons, List.all_nil, List.all_map, Function.comp_def, cI, cB, iav, bav, AV.sc1, AV.sc0, Bool.and_true, Bool.and_self, qf]; try rfl)⟩) rfl (hpA := [⟨24, 1, [[.os 1 f.length]]⟩, ⟨44, 16, rowsK f (c.parent - 1) (.os 2 (atI f (c.parent - 1)).kids.length)⟩, ⟨3, 1, (atI f (c.parent - 1)).kids.map cI⟩]) (by simp only [List.map_cons, List.map_nil, eN, eK]; rfl) (r' := .tup [.ptr 1 f.length (c.node - 1).toNat 0, .ptr 1 f.length (c.parent - 1).toNat 0]) rfl rfl ?_ | refine yad rfl (ybm (b := ⟨44, 16, R1⟩) rfl rfl rfl (by rw [hR1]; rfl) hR1l.symm) rfl ?_ | refine yad rfl (ya6 (b := ⟨44, 16, R1⟩) tabs rfl rfl rfl rfl rfl rfl rfl (by rw [hR1]; rfl) hR1l.symm) rfl ?_ | refine yad rfl (yaz (i := ti3) (v := iav c.parent) (b := ⟨44, 16, R1⟩) (r := nodeRow nd kk2) tabs rfl rfl rfl rfl rfl (by rw [← qm, hR1]; rfl) hR1l.symm rfl rfl (Nat.le_of_ble_eq_true rfl) gnode2) rfl ?_ | refine ym ?_ | (refine yj rfl rfl rfl (fun hc => ?_) (fun hc => ?_) <;> (fail_if_success (exact absurd hc (by decide))) <;> (try simp only [hsx] at hc) <;> (try first | omega | contradiction | (simp [qa] at hc; done)))) | ((with_reducible show DQ _ _ _ _ _ _); first | refine DQ.stepc (ycd (b := ⟨44, 16, rowsK f (c.parent - 1) (.os 2 (atI f (c.parent - 1)).kids.length)⟩) tabs rfl rfl rfl u153 rfl rfl hR.symm rfl) rfl rfl rfl rfl rfl ?_ | refine DQ.stepc (yb0 (b := ⟨44, 16, rowsK f (c.parent - 1) (.os 2 (atI f (c.parent - 1)).kids.length)⟩) rfl rfl rfl rfl rfl hR.symm) rfl rfl rfl rfl rfl ?_ | refine DQ.stepc (yaw (b := ⟨44, 16, rowsK f (c.parent - 1) (.os 2 (atI f (c.parent - 1)).kids.length)⟩) tabs rfl rfl rfl rfl rfl rfl rfl rfl rfl hR.symm) rfl rfl rfl rfl rfl ?_ | refine DQ.stepc (ya7 (i := ti3) (r := nodeRow nd kk) (b := ⟨44, 16, rowsK f (c.parent - 1) (.os 2 (atI f (c.parent - 1)).kids.length)⟩) (row := (c.node - 1).toNat) tabs rfl rfl rfl rfl rfl rfl hR.symm gnode rfl) rfl rfl rfl rfl rfl ?_ | refine DQ.stepc (ya7 (i := ti41) (r := nodeRow (atI f (c.parent - 1)) (.os 2 (atI f (c.parent - 1)).kids.length)) (b := ⟨44, 16, rowsK f (c.parent - 1) (.os 2 (atI f (c.parent - 1)).kids.length)⟩) (row := (c.parent - 1).toNat) tabs rfl rfl rfl rfl rfl rfl hR.symm gpar rfl) rfl rfl rfl rfl rfl ?_ | refine DQ.stepc (yb4 (b := ⟨3, 1, (atI f (c.parent - 1)).kids.map cI⟩) tabs rfl rfl rfl rfl rfl rfl rfl (by simp)) rfl rfl rfl rfl rfl ?_ | refine DQ.stepc (ycc 3 tabs rfl rfl rfl rfl rfl rfl rfl rfl rfl rfl rfl rfl) rfl rfl rfl rfl rfl ?_ | refine DQ.stepc (ycb 2 3 (r' := .os 2 ((atI f (c.parent - 1)).kids ++ [c.node]).length) (bA := ⟨3, 1, ((atI f (c.parent - 1)).kids ++ [c.node]).map cI⟩) rfl rfl rfl rfl rfl (qmy (atI f (c.parent - 1)).kids c.node (hf.atI (c.parent - 1) (by omega) (by omega)).kids) (fun _ => by rw [← hidx]; rfl) rfl rfl rfl (fun _ => (qn _ _ _ _).symm) (fun _ => rfl) rfl (by simp only [List.all_cons, List.all_nil, List.all_map, Function.comp_def, cI, cB, iav, bav, AV.sc1, AV.sc0, Bool.and_true, Bool.and_self, qf]; try rfl) rfl (by simp only [List.all_cons, List.all_nil, List.all_map, Function.comp_def, cI, cB, iav, bav, AV.sc1, AV.sc0, Bool.and_true, Bool.and_self, qf]; try rfl) (fun _ => qn _ _ _ _) (fun _ => rfl)) rfl rfl rfl rfl rfl ?_ | refine DQ.stepc (LS.store (i := ti41) (v := (.os 2 ((atI f (c.parent - 1)).kids ++ [c.node]).length)) (ty := 44) (sz := 16) (rows := rowsK f (c.parent - 1) (.os 2 (atI f (c.parent - 1)).kids.length)) (r := nodeRow (atI f (c.parent - 1)) (.os 2 (atI f (c.parent - 1)).kids.length)) tabs rfl rfl rfl rfl rfl rfl rfl hR.symm rfl rfl (by decide) gpar) rfl rfl rfl rfl rfl ?_ | refine DQ.stepc (LS.val tabs rfl rfl rfl) rfl rfl rfl rfl rfl ?_ | refine DQ.stepc (yab rfl rfl) rfl rfl rfl rfl rfl ?_ | refine DQ.nilM (by kernel_rfl) ?_ | (refine DQ.gsplitE rfl rfl rfl (fun hc => ?_) (fun hc => ?_) <;> (fail_if_success (exact absurd hc (by decide))) <;> (try simp only [hsx] at hc) <;> (try first | omega | contradiction | (simp [qa] at hc; done)))) | refine yn ?_ | refine yc ?_ | refine ya ?_ | refine yf ?_ | refine yh rfl ?_ | refine yg rfl ?_ | (refine yk rfl (fun hc => ?_) (fun hc => ?_) <;> (try simp only [hsx] at hc) <;> (try first | omega | contradiction | (simp [qa] at hc; done))) | refine yo ?_ | refine yd ?_ | refine yx mixed (by kernel_rfl) ?_))
  all_goals first
    | (exfalso; omega)
    | (refine yam 3 rfl rfl (by rw [← hfin]; rfl) rfl ?_ (by simp [cxG])
       simp only [qax]
       exact ⟨rfl, hscF, (by simp only [List.all_cons, List.all_nil, List.all_map, Function.comp_def, cI, cB, iav, bav, AV.sc1, AV.sc0, Bool.and_true, Bool.and_self, qf]; try rfl)⟩)
theorem qjd (f : List Node) (c : Change) (hf : Fit f) (h1 : 1 ≤ c.node) (h2 : c.node ≤ f.length) (h3 : 1 ≤ c.parent) (h4 : c.parent ≤ f.length) (hidx : c.index = (atI f (c.parent - 1)).kids.length) (hk : (atI f (c.parent - 1)).kids = []) (hp0 : (atI f (c.node - 1)).parent = 0) : GenC Tryz.prog 113 [⟨24, 1, [[.os 1 f.length]]⟩, ⟨44, 16, rowsK f (c.parent - 1) .nocap⟩, ⟨3, 1, []⟩] [.ptr 0 1 0 0, c.av] (bav true) [⟨24, 1, [[.os 1 f.length]]⟩, ⟨44, 16, rowsK (insF f c.node c.parent) (c.parent - 1) (.os 2 1)⟩, ⟨3, 1, [cI c.node]⟩] := by
  have hl := hf.len
  have hidx' : c.index = 0 := by rw [hidx, hk]; rfl
  have hR := qaq f (c.parent - 1) .nocap
  have hsc : (rowsK f (c.parent - 1) .nocap).all (fun r => r.all (AV.sc1 3)) = true := qad f _ _ 3 rfl
  have eN : ∀ n, renB (rho [0, 1, 2] n) ⟨44, 16, rowsK f (c.parent - 1) .nocap⟩ = ⟨44, 16, rowsK f (c.parent - 1) .nocap⟩ := fun n => qk (rho3 n) hsc
  have eK : ∀ n, renB (rho [0, 1, 2] n) ⟨3, 1, []⟩ = ⟨3, 1, []⟩ := fun n => rfl
  obtain ⟨nd, hnd⟩ : ∃ nd, nd = atI f (c.node - 1) := ⟨_, rfl⟩
  rw [← hnd] at hp0
  obtain ⟨kk, hkk, hnode⟩ : ∃ kk : AV, kk = (if c.node - 1 = c.parent - 1 then .nocap else .imm (.sl (nd.kids.map i64))) ∧ atI (rowsK f (c.parent - 1) .nocap) (c.node - 1) = nodeRow nd kk := by
    refine ⟨_, rfl, ?_⟩
    rw [qaa f _ _ (by omega) (by omega) _ (by omega) (by omega), hnd]
    split
    · rename_i e; rw [e]
    · rfl
  have hpar : atI (rowsK f (c.parent - 1) .nocap) (c.parent - 1) = nodeRow (atI f (c.parent - 1)) .nocap := by
    rw [qaa f _ _ (by omega) (by omega) _ (by omega) (by omega), if_pos rfl]
  obtain ⟨R1, hR1⟩ : ∃ R1, R1 = (rowsK f (c.parent - 1) .nocap).set (c.parent - 1).toNat (nodeRow (atI f (c.parent - 1)) (.os 2 1)) := ⟨_, rfl⟩
  have hR1l : R1.length = f.length := by rw [hR1, List.length_set, hR]
  obtain ⟨kk2, hkk2, hnode2⟩ : ∃ kk2 : AV, kk2 = (if c.node - 1 = c.parent - 1 then (.os 2 1) else .imm (.sl (nd.kids.map i64))) ∧ atI R1 (c.node - 1) = nodeRow nd kk2 := by
    refine ⟨_, rfl, ?_⟩
    rw [hR1, qt _ _ _ _ (by omega) (by omega) (by omega), hnd]
    split
    · rename_i e; rw [e]
    · rename_i e
      rw [qaa f _ _ (by omega) (by omega) _ (by omega) (by omega), if_neg e]; rfl
  have hfin : R1.set (c.node - 1).toNat (nodeRow { nd with parent := c.parent } kk2) = rowsK (insF f c.node c.parent) (c.parent - 1) (.os 2 1) := by
    have hil := qdj f c.node c.parent
    have hul : ∀ n, (updAt f (c.parent - 1) n).length = f.length := fun n => by unfold updAt; simp
    refine qe8 (by rw [List.length_set, qaq, hil, hR1l]) fun i g0 g1 => ?_
    rw [List.length_set] at g1
    rw [qt _ _ _ _ (by omega) (by omega) g0, qaa _ _ _ (by omega) (by omega) _ g0 (by omega)]
    have hat : ∀ j : Int, 0 ≤ j → j < f.length → atI (insF f c.node c.parent) j = if j = c.node - 1 then { (if c.node - 1 = c.parent - 1 then { atI f (c.parent - 1) with kids := (atI f (c.parent - 1)).kids ++ [c.node] } else atI f (c.node - 1)) with parent := c.parent } else if j = c.parent - 1 then { atI f (c.parent - 1) with kids := (atI f (c.parent - 1)).kids ++ [c.node] } else atI f j := by
      intro j j0 j1
      unfold insF
      rw [show updAt (updAt f (c.parent - 1) { atI f (c.parent - 1) with kids := (atI f (c.parent - 1)).kids ++ [c.node] }) (c.node - 1) { atI (updAt f (c.parent - 1) { atI f (c.parent - 1) with kids := (atI f (c.parent - 1)).kids ++ [c.node] }) (c.node - 1) with parent := c.parent } = (updAt f (c.parent - 1) { atI f (c.parent - 1) with kids := (atI f (c.parent - 1)).kids ++ [c.node] }).set (c.node - 1).toNat { atI (updAt f (c.parent - 1) { atI f (c.parent - 1) with kids := (atI f (c.parent - 1)).kids ++ [c.node] }) (c.node - 1) with parent := c.parent } from rfl]
      rw [qt _ _ _ _ (by omega) (by rw [hul]; omega) j0]
      unfold updAt
      rw [qt _ _ _ _ (by omega) (by omega) (by omega), qt _ _ _ _ (by omega) (by omega) j0]
    by_cases e1 : i = c.node - 1
    · rw [if_pos e1]
      by_cases e2 : c.node - 1 = c.parent - 1
      · rw [if_pos (by omega), hat _ (by omega) (by omega), if_pos (by omega), if_pos e2, hkk2, if_pos e2, hnd, e2]; rfl
      · rw [if_neg (by omega), hat _ g0 (by omega), if_pos e1, if_neg e2, hkk2, if_neg e2, hnd]; rfl
    · rw [if_neg e1, hR1, qt _ _ _ _ (by omega) (by omega) g0]
      by_cases e2 : i = c.parent - 1
      · rw [if_pos e2, if_pos e2, hat _ (by omega) (by omega), if_neg (by omega), if_pos rfl]; rfl
      · rw [if_neg e2, if_neg e2, qaa f _ _ (by omega) (by omega) _ g0 (by omega), if_neg e2, hat _ g0 (by omega), if_neg e1, if_neg e2]
  have hscF : (rowsK (insF f c.node c.parent) (c.parent - 1) (.os 2 1)).all (fun r => r.all (AV.sc1 3)) = true := qad _ _ _ 3 rfl
  have gnode := qav (by omega) (by omega) hnode
  have gpar := qav (by omega) (by omega) hpar
  have gnode2 := qav (by omega) (by omega) hnode2
  refine yaj tabs Tryz.func113 55 [.tmp 4] rfl rfl rfl rfl rfl ?_; intro w0 X γ κ
  refine AW.reserve 3 1 rfl ?_
  (repeat' (first | ((with_reducible show AL _ _ _ _ _); first | (refine AL.step tabs rfl ?_; try dsimp only [len, List.nil_append, List.cons_append]) | refine yac [0, 1, 2] 5 rfl rfl rfl rfl rfl (caps := []) rfl (qgu f (rowsK f (c.parent - 1) .nocap) [] c hR hl hsc h1 h2 h3 h4) rfl (by simp only [List.map_cons, List.map_nil, eN, eK]; rfl) rfl rfl (by simp only [qax]; exact ⟨rfl, hsc, (by simp only [List.all_cons, List.all_nil, List.all_map, Function.comp_def, cI, cB, iav, bav, AV.sc1, AV.sc0, Bool.and_true, Bool.and_self, qf]; try rfl)⟩) rfl (by simp only [qax]; exact ⟨rfl, hsc, (by simp only [List.all_cons, List.all_nil, List.all_map, Function.comp_def, cI, cB, iav, bav, AV.sc1, AV.sc0, Bool.and_true, Bool.and_self, qf]; try rfl)⟩) rfl (hpA := [⟨24, 1, [[.os 1 f.length]]⟩, ⟨44, 16, rowsK f (c.parent - 1) .nocap⟩, ⟨3, 1, []⟩]) (by simp only [List.map_cons, List.map_nil, eN, eK]; rfl) (r' := .tup [.ptr 1 f.length (c.node - 1).toNat 0, .ptr 1 f.length (c.parent - 1).toNat 0]) rfl rfl ?_ | refine yad rfl (ybm (b := ⟨44, 16, R1⟩) rfl rfl rfl (by rw [hR1]; rfl) hR1l.symm) rfl ?_ | refine yad rfl (ya6 (b := ⟨44, 16, R1⟩) tabs rfl rfl rfl rfl rfl rfl rfl (by rw [hR1]; rfl) hR1l.symm) rfl ?_ | refine yad rfl (yaz (i := ti3) (v := iav c.parent) (b := ⟨44, 16, R1⟩) (r := nodeRow nd kk2) tabs rfl rfl rfl rfl rfl (by rw [← qm, hR1]; rfl) hR1l.symm rfl rfl (Nat.le_of_ble_eq_true rfl) gnode2) rfl ?_ | refine ym ?_ | (refine yj rfl rfl rfl (fun hc => ?_) (fun hc => ?_) <;> (fail_if_success (exact absurd hc (by decide))) <;> (try simp only [hsx] at hc) <;> (try first | omega | contradiction | (simp [qa] at hc; done)))) | ((with_reducible show DQ _ _ _ _ _ _); first | refine DQ.stepc (ycd (b := ⟨44, 16, rowsK f (c.parent - 1) .nocap⟩) tabs rfl rfl rfl u153 rfl rfl hR.symm rfl) rfl rfl rfl rfl rfl ?_ | refine DQ.stepc (yb0 (b := ⟨44, 16, rowsK f (c.parent - 1) .nocap⟩) rfl rfl rfl rfl rfl hR.symm) rfl rfl rfl rfl rfl ?_ | refine DQ.stepc (yaw (b := ⟨44, 16, rowsK f (c.parent - 1) .nocap⟩) tabs rfl rfl rfl rfl rfl rfl rfl rfl rfl hR.symm) rfl rfl rfl rfl rfl ?_ | refine DQ.stepc (ya7 (i := ti3) (r := nodeRow nd kk) (b := ⟨44, 16, rowsK f (c.parent - 1) .nocap⟩) (row := (c.node - 1).toNat) tabs rfl rfl rfl rfl rfl rfl hR.symm gnode rfl) rfl rfl rfl rfl rfl ?_ | refine DQ.stepc (ya7 (i := ti41) (r := nodeRow (atI f (c.parent - 1)) .nocap) (b := ⟨44, 16, rowsK f (c.parent - 1) .nocap⟩) (row := (c.parent - 1).toNat) tabs rfl rfl rfl rfl rfl rfl hR.symm gpar rfl) rfl rfl rfl rfl rfl ?_ | refine DQ.stepc (LS.len_nocap tabs rfl rfl rfl rfl rfl rfl) rfl rfl rfl rfl rfl ?_ | refine DQ.stepc (ycc 3 tabs rfl rfl rfl rfl rfl rfl rfl rfl rfl rfl rfl rfl) rfl rfl rfl rfl rfl ?_ | refine DQ.stepc (ycb 2 3 (r' := .os 2 1) (bA := ⟨3, 1, [cI c.node]⟩) rfl rfl rfl rfl rfl (qoj c.node) (fun _ => by rw [hidx']; rfl) rfl rfl rfl (fun _ => rfl) (fun _ => rfl) rfl (by simp only [List.all_cons, List.all_nil, List.all_map, Function.comp_def, cI, cB, iav, bav, AV.sc1, AV.sc0, Bool.and_true, Bool.and_self, qf]; try rfl) rfl (by simp only [List.all_cons, List.all_nil, List.all_map, Function.comp_def, cI, cB, iav, bav, AV.sc1, AV.sc0, Bool.and_true, Bool.and_self, qf]; try rfl) (fun _ => rfl) (fun _ => rfl)) rfl rfl rfl rfl rfl ?_ | refine DQ.stepc (LS.store (i := ti41) (v := (.os 2 1)) (ty := 44) (sz := 16) (rows := rowsK f (c.parent - 1) .nocap) (r := nodeRow (atI f (c.parent - 1)) .nocap) tabs rfl rfl rfl rfl rfl rfl rfl hR.symm rfl rfl (by decide) gpar) rfl rfl rfl rfl rfl ?_ | refine DQ.stepc (LS.val tabs rfl rfl rfl) rfl rfl rfl rfl rfl ?_ | refine DQ.stepc (yab rfl rfl) rfl rfl rfl rfl rfl ?_ | refine DQ.nilM (by kernel_rfl) ?_ | (refine DQ.gsplitE rfl rfl rfl (fun hc => ?_) (fun hc => ?_) <;> (fail_if_success (exact absurd hc (by decide))) <;> (try simp only [hsx] at hc) <;> (try first | omega | contradiction | (simp [qa] at hc; done)))) | refine yn ?_ | refine yc ?_ | refine ya ?_ | refine yf ?_ | refine yh rfl ?_ | refine yg rfl ?_ | (refine yk rfl (fun hc => ?_) (fun hc => ?_) <;> (try simp only [hsx] at hc) <;> (try first | omega | contradiction | (simp [qa] at hc; done))) | refine yo ?_ | refine yd ?_ | refine yx mixed (by kernel_rfl) ?_))
  all_goals first
    | (exfalso; omega)
    | (refine yam 3 rfl rfl (by rw [← hfin]; rfl) rfl ?_ (by simp [cxG])
       simp only [qax]
       exact ⟨rfl, hscF, (by simp only [List.all_cons, List.all_nil, List.all_map, Function.comp_def, cI, cB, iav, bav, AV.sc1, AV.sc0, Bool.and_true, Bool.and_self, qf]; try rfl)⟩)
theorem qc (f : List Node) (k : Nat) : (f.map rowS).all (fun r => r.all (AV.sc1 k)) = true := by
  rw [List.all_map, List.all_eq_true]
  exact fun n _ => qao n k
theorem qh4 (f : List Node) (c : Change) (hf : Fit f) (hm : FitN c.made) (h1 : c.node = f.length + 1) (h2 : c.made.kind ≠ 12) : GenC Tryz.prog 111 [⟨24, 1, [[.os 1 f.length]]⟩, ⟨44, 16, f.map rowS⟩] [.ptr 0 1 0 0, c.av] (bav true) [⟨24, 1, [[.os 1 (f.length + 1)]]⟩, ⟨44, 16, (f ++ [c.made]).map rowS⟩] := by
  have hl := hf.len
  have hR : (f.map rowS).length = f.length := List.length_map _
  refine yaj tabs Tryz.func111 32 [.tmp 4] rfl rfl rfl rfl rfl ?_; intro w0 X γ κ
  refine AW.reserve 44 16 rfl ?_
  (repeat' (first | ((with_reducible show AL _ _ _ _ _); first | (refine AL.step tabs rfl ?_; try dsimp only [len, List.nil_append, List.cons_append]) | refine ym ?_ | (refine yj rfl rfl rfl (fun hc => ?_) (fun hc => ?_) <;> (fail_if_success (exact absurd hc (by decide))) <;> (try simp only [hsx] at hc) <;> (try first | omega | contradiction | (simp [qa] at hc; done))) | (refine AL.op rfl (yi rfl rfl rfl rfl rfl (by omega) (by omega)) ?_)) | ((with_reducible show DQ _ _ _ _ _ _); first | refine DQ.stepc (yb4 (b := ⟨44, 16, f.map rowS⟩) tabs rfl rfl rfl rfl rfl rfl rfl hR.symm) rfl rfl rfl rfl rfl ?_ | refine DQ.stepc (yai rfl rfl rfl rfl rfl (qbf c.made hm) rfl) rfl rfl rfl rfl rfl ?_ | refine DQ.stepc (ycc 2 tabs rfl rfl rfl rfl rfl rfl rfl rfl rfl rfl rfl rfl) rfl rfl rfl rfl rfl ?_ | refine DQ.stepc (ybh (ie := ti44) (ty := 44) (sz := 16) (rows := f.map rowS) (rows2 := [rowS c.made]) tabs rfl rfl rfl rfl rfl rfl rfl rfl hR.symm rfl rfl (fun s' hl => hl.srcOwn (by simp [Op.operands, Call.operands]) tabs rfl rfl (b := ⟨44, 16, [rowS c.made]⟩) rfl rfl rfl rfl (by simp [rowS, Node.iv, ti44]) (by simp [rowS, Node.iv, AV.cell])) (by simp [ti44]; omega) (by simp; omega)) rfl rfl rfl rfl rfl ?_ | refine DQ.stepc (LS.store (i := ti22) (v := .os 1 (f.length + 1)) (ty := 24) (sz := 1) (rows := [[.os 1 f.length]]) (r := [.os 1 f.length]) tabs rfl rfl rfl rfl rfl rfl rfl rfl rfl rfl (Nat.le_of_ble_eq_true rfl) rfl) rfl rfl rfl rfl rfl ?_ | refine DQ.stepc (LS.val tabs rfl rfl rfl) rfl rfl rfl rfl rfl ?_ | refine DQ.stepc (yab rfl rfl) rfl rfl rfl rfl rfl ?_ | refine DQ.nilM (by kernel_rfl) ?_ | refine DQ.stepc (yaf rfl rfl rfl rfl rfl rfl (by omega) (by omega)) rfl rfl rfl rfl rfl ?_ | (refine DQ.gsplitE rfl rfl rfl (fun hc => ?_) (fun hc => ?_) <;> (fail_if_success (exact absurd hc (by decide))) <;> (try simp only [hsx] at hc) <;> (try first | omega | contradiction | (simp [qa] at hc; done)))) | refine yn ?_ | refine yc ?_ | refine ya ?_ | refine yf ?_ | refine yh rfl ?_ | refine yg rfl ?_ | (refine yk rfl (fun hc => ?_) (fun hc => ?_) <;> (try simp only [hsx] at hc) <;> (try first | omega | contradiction | (simp [qa] at hc; done))) | refine yo ?_ | refine yd ?_ | refine yx mixed (by kernel_rfl) ?_))
  all_goals first
    | (exfalso; exact h2 hc)
    | (exfalso; omega)
    | (refine yam 2 rfl rfl (by rw [List.map_append]; rfl) rfl ?_ (by simp [cxG])
       simp only [qax]
       first | exact ⟨rfl, qc _ 2⟩ | exact qc _ 2)
end Go.Proofs.YtmhejcnaanocpaaGreat.A
