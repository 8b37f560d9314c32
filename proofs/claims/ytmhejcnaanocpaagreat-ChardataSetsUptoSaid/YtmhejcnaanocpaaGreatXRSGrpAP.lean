/- Contracts: package pen. -/
import Derived.Test.YtmhejcnaanocpaaGreatXRSGrpAN
import Derived.Test.YtmhejcnaanocpaaGreatXRSGrpAO
import Derived.Test.YtmhejcnaanocpaaGreatXRSGrpAL
namespace Go.Proofs.YtmhejcnaanocpaaGreat.A
set_option linter.unusedVariables false
set_option linter.unusedSimpArgs false
set_option maxRecDepth 100000
set_option maxHeartbeats 4000000
theorem qm2 (f g : List Node) (c : Change) (w : Int) (hf : Fit f) (hr : rightP f) (hd : PureC Tryz.prog 71 [fav f, c.av] (.tup [fav g, iav w])) : PureC Tryz.prog 83 [fav f, c.av] (.tup [fav g, iav w]) := by
  refine yp tabs Tryz.func83 15 [.cell 4 24, .tmp 5] rfl rfl rfl rfl rfl ?_; intro w0 X
  (repeat' (first | ((with_reducible show AL _ _ _ _ _); first | (refine yf tabs rfl ?_; try dsimp only [len, List.nil_append, List.cons_append]) | refine AL.op rfl (yd rfl rfl rfl rfl (qdp (qbc f hf) hr) rfl) ?_ | refine AL.op rfl (yd rfl rfl rfl rfl hd rfl) ?_ | refine yn ?_) | refine ym ?_ | refine ya ?_ | refine yb ?_ | refine yg ?_ | refine yi rfl ?_ | refine yh rfl ?_ | (refine yk rfl (fun hc => ?_) (fun hc => ?_) <;> (try simp only [hsx] at hc) <;> (try first | omega | contradiction | (simp [qa] at hc; done))) | refine yo ?_ | refine yc ?_))
  exact RQ.fin rfl rfl rfl
def rowC (c : Change) : List AV := c.iv.map .imm
theorem qd (l : List Change) (k : Nat) : (l.map rowC).all (fun r => r.all (AV.sc1 k)) = true := by
  rw [List.all_map, List.all_eq_true]
  exact fun n _ => rfl
structure PS where
  F : List Node
  L : List Change
  why : Int
theorem qou (p : PS) (c : Change) (h : p.why ≠ 0) : GenC Tryz.prog 45 [⟨112, 3, [[.imm (.sl (p.F.map Node.iv)), .os 1 p.L.length, iav p.why]]⟩, ⟨58, 36, p.L.map rowC⟩] [.ptr 0 1 0 0, c.av] (bav false) [⟨112, 3, [[.imm (.sl (p.F.map Node.iv)), .os 1 p.L.length, iav p.why]]⟩, ⟨58, 36, p.L.map rowC⟩] := by
  refine yah tabs Tryz.func45 41 [.tmp 4] rfl rfl rfl rfl rfl ?_; intro w0 X γ κ
  (repeat' (first | ((with_reducible show AL _ _ _ _ _); first | (refine yf tabs rfl ?_; try dsimp only [len, List.nil_append, List.cons_append]) | refine yn ?_) | ((with_reducible show DQ _ _ _ _ _ _); first | refine DQ.stepc (LS.val tabs rfl rfl rfl) rfl rfl rfl rfl rfl ?_ | refine DQ.stepc (yu rfl rfl) rfl rfl rfl rfl rfl ?_ | refine DQ.nilM (by kernel_rfl) ?_) | refine ym ?_ | refine ya ?_ | refine yb ?_ | refine yg ?_ | refine yi rfl ?_ | refine yh rfl ?_ | (refine yk rfl (fun hc => ?_) (fun hc => ?_) <;> (try simp only [hsx] at hc) <;> (try first | omega | contradiction | (simp [qa] at hc; done))) | refine yo ?_ | refine yc ?_ | refine yr mixed (by kernel_rfl) ?_))
  refine yal 2 rfl rfl rfl rfl ?_ (by simp [cxG])
  simp only [qax]
  exact ⟨⟨rfl, rfl, rfl⟩, qd _ _⟩
theorem qov (p : PS) (c : Change) (g : List Node) (w : Int) (h0 : p.why = 0) (hw : w ≠ 0) (ha : PureC Tryz.prog 83 [fav p.F, c.av] (.tup [fav g, iav w])) : GenC Tryz.prog 45 [⟨112, 3, [[.imm (.sl (p.F.map Node.iv)), .os 1 p.L.length, iav p.why]]⟩, ⟨58, 36, p.L.map rowC⟩] [.ptr 0 1 0 0, c.av] (bav false) [⟨112, 3, [[.imm (.sl (p.F.map Node.iv)), .os 1 p.L.length, iav w]]⟩, ⟨58, 36, p.L.map rowC⟩] := by
  refine yah tabs Tryz.func45 41 [.tmp 4] rfl rfl rfl rfl rfl ?_; intro w0 X γ κ
  refine AW.reserve 24 1 rfl ?_
  (repeat' (first | ((with_reducible show AL _ _ _ _ _); first | (refine yf tabs rfl ?_; try dsimp only [len, List.nil_append, List.cons_append]) | refine yn ?_) | ((with_reducible show DQ _ _ _ _ _ _); first | refine DQ.stepc (yai rfl rfl rfl rfl rfl ha rfl) rfl rfl rfl rfl rfl ?_ | refine DQ.stepc (LS.alloc 2 tabs rfl rfl rfl rfl rfl rfl) rfl rfl rfl rfl rfl ?_ | refine DQ.stepc (LS.store (i := ti24) (v := fav g) (ty := 24) (sz := 1) (rows := [ti24.zero]) (r := ti24.zero) tabs rfl rfl rfl rfl rfl rfl rfl rfl rfl rfl (Nat.le_of_ble_eq_true rfl) rfl) rfl rfl rfl rfl rfl ?_ | refine DQ.stepc (ya9 3 tabs rfl rfl rfl rfl rfl rfl rfl rfl rfl rfl rfl rfl) rfl rfl rfl rfl rfl ?_ | refine DQ.stepc (yaw (ie := ti58) (ty := 58) (sz := 36) (rows := p.L.map rowC) (rows2 := [rowC c]) tabs rfl rfl rfl rfl rfl rfl rfl rfl (List.length_map _).symm rfl rfl (fun s' hl => hl.srcOwn (by simp [Op.operands, Call.operands]) tabs rfl rfl (b := ⟨58, 36, [rowC c]⟩) rfl rfl rfl rfl (by simp [rowC, Change.iv, ti58]) (by simp [rowC, Change.iv, AV.cell])) (by simp [ti58]; omega) (by simp; omega)) rfl rfl rfl rfl rfl ?_ | refine DQ.stepc (LS.store (i := ti27) (v := .os 1 (p.L.length + 1)) (ty := 112) (sz := 3) (rows := [[.imm (.sl (g.map Node.iv)), .os 1 p.L.length, iav 0]]) (r := [.imm (.sl (g.map Node.iv)), .os 1 p.L.length, iav 0]) tabs rfl rfl rfl rfl rfl rfl rfl rfl rfl rfl (Nat.le_of_ble_eq_true rfl) rfl) rfl rfl rfl rfl rfl ?_ | refine DQ.stepc (LS.val tabs rfl rfl rfl) rfl rfl rfl rfl rfl ?_ | refine DQ.stepc (yu rfl rfl) rfl rfl rfl rfl rfl ?_ | refine DQ.nilM (by kernel_rfl) ?_) | refine ym ?_ | refine ya ?_ | refine yb ?_ | refine yg ?_ | refine yi rfl ?_ | refine yh rfl ?_ | (refine yk rfl (fun hc => ?_) (fun hc => ?_) <;> (try simp only [hsx] at hc) <;> (try first | omega | contradiction | (simp [qa] at hc; done))) | refine yo ?_ | refine yc ?_ | refine yr mixed (by kernel_rfl) ?_))
  refine yal 2 rfl rfl rfl rfl ?_ (by simp [cxG])
  simp only [qax]
  exact ⟨⟨rfl, rfl, rfl⟩, qd _ _⟩
theorem qow (p : PS) (c : Change) (g : List Node) (h0 : p.why = 0) (hL : p.L.length ≤ 1000000) (ha : PureC Tryz.prog 83 [fav p.F, c.av] (.tup [fav g, iav 0])) : GenC Tryz.prog 45 [⟨112, 3, [[.imm (.sl (p.F.map Node.iv)), .os 1 p.L.length, iav p.why]]⟩, ⟨58, 36, p.L.map rowC⟩] [.ptr 0 1 0 0, c.av] (bav true) [⟨112, 3, [[.imm (.sl (g.map Node.iv)), .os 1 (p.L.length + 1), iav 0]]⟩, ⟨58, 36, (p.L ++ [c]).map rowC⟩] := by
  rw [h0]
  refine yah tabs Tryz.func45 41 [.tmp 4] rfl rfl rfl rfl rfl ?_; intro w0 X γ κ
  refine AW.reserve 24 1 rfl ?_
  refine AW.reserve 58 36 rfl ?_
  (repeat' (first | ((with_reducible show AL _ _ _ _ _); first | (refine yf tabs rfl ?_; try dsimp only [len, List.nil_append, List.cons_append]) | refine yn ?_) | ((with_reducible show DQ _ _ _ _ _ _); first | refine DQ.stepc (yai rfl rfl rfl rfl rfl ha rfl) rfl rfl rfl rfl rfl ?_ | refine DQ.stepc (LS.alloc 2 tabs rfl rfl rfl rfl rfl rfl) rfl rfl rfl rfl rfl ?_ | refine DQ.stepc (LS.store (i := ti24) (v := fav g) (ty := 24) (sz := 1) (rows := [ti24.zero]) (r := ti24.zero) tabs rfl rfl rfl rfl rfl rfl rfl rfl rfl rfl (Nat.le_of_ble_eq_true rfl) rfl) rfl rfl rfl rfl rfl ?_ | refine DQ.stepc (ya9 3 tabs rfl rfl rfl rfl rfl rfl rfl rfl rfl rfl rfl rfl) rfl rfl rfl rfl rfl ?_ | refine DQ.stepc (yaw (ie := ti58) (ty := 58) (sz := 36) (rows := p.L.map rowC) (rows2 := [rowC c]) tabs rfl rfl rfl rfl rfl rfl rfl rfl (List.length_map _).symm rfl rfl (fun s' hl => hl.srcOwn (by simp [Op.operands, Call.operands]) tabs rfl rfl (b := ⟨58, 36, [rowC c]⟩) rfl rfl rfl rfl (by simp [rowC, Change.iv, ti58]) (by simp [rowC, Change.iv, AV.cell])) (by simp [ti58]; omega) (by simp; omega)) rfl rfl rfl rfl rfl ?_ | refine DQ.stepc (LS.store (i := ti27) (v := .os 1 (p.L.length + 1)) (ty := 112) (sz := 3) (rows := [[.imm (.sl (g.map Node.iv)), .os 1 p.L.length, iav 0]]) (r := [.imm (.sl (g.map Node.iv)), .os 1 p.L.length, iav 0]) tabs rfl rfl rfl rfl rfl rfl rfl rfl rfl rfl (Nat.le_of_ble_eq_true rfl) rfl) rfl rfl rfl rfl rfl ?_ | refine DQ.stepc (LS.val tabs rfl rfl rfl) rfl rfl rfl rfl rfl ?_ | refine DQ.stepc (yu rfl rfl) rfl rfl rfl rfl rfl ?_ | refine DQ.nilM (by kernel_rfl) ?_) | refine ym ?_ | refine ya ?_ | refine yb ?_ | refine yg ?_ | refine yi rfl ?_ | refine yh rfl ?_ | (refine yk rfl (fun hc => ?_) (fun hc => ?_) <;> (try simp only [hsx] at hc) <;> (try first | omega | contradiction | (simp [qa] at hc; done))) | refine yo ?_ | refine yc ?_ | refine yr mixed (by kernel_rfl) ?_))
  refine yal 2 rfl rfl (by rw [List.map_append]; rfl) rfl ?_ (by simp [cxG])
  simp only [qax]
  exact ⟨⟨rfl, rfl, rfl⟩, qd _ _⟩
inductive DoR : PS → Change → PS → Bool → Prop
  | stop (p : PS) (c : Change) (h : p.why ≠ 0) : DoR p c p false
  | bad (p : PS) (c : Change) (g : List Node) (w : Int) (h0 : p.why = 0) (hw : w ≠ 0) (ha : PureC Tryz.prog 83 [fav p.F, c.av] (.tup [fav g, iav w])) : DoR p c ⟨p.F, p.L, w⟩ false
  | ok (p : PS) (c : Change) (g : List Node) (h0 : p.why = 0) (ha : PureC Tryz.prog 83 [fav p.F, c.av] (.tup [fav g, iav 0])) : DoR p c ⟨g, p.L ++ [c], 0⟩ true
theorem do_c (p q : PS) (c : Change) (b : Bool) (hL : p.L.length ≤ 1000000) (h : DoR p c q b) : GenC Tryz.prog 45 [⟨112, 3, [[.imm (.sl (p.F.map Node.iv)), .os 1 p.L.length, iav p.why]]⟩, ⟨58, 36, p.L.map rowC⟩] [.ptr 0 1 0 0, c.av] (bav b) [⟨112, 3, [[.imm (.sl (q.F.map Node.iv)), .os 1 q.L.length, iav q.why]]⟩, ⟨58, 36, q.L.map rowC⟩] := by
  cases h with
  | stop h => exact qou p c h
  | bad g w h0 hw ha => exact qov p c g w h0 hw ha
  | ok g h0 ha =>
    have := qow p c g h0 hL ha
    rw [show p.L.length + 1 = (p.L ++ [c]).length by simp] at this
    exact this
theorem renC (ρ : Nat → Nat) (ty sz : Nat) (l : List Change) : renB ρ ⟨ty, sz, l.map rowC⟩ = ⟨ty, sz, l.map rowC⟩ := qf (k := 0) (rho0 rfl) (qd l 0)
def mkX (p : PS) (b : Bool) : Int := match b with
  | true => p.F.length + 1
  | false => 0
def rawMk (node : Int) (n : Node) : AV := .agg [kav 1, iav node, iav 0, iav 0, iav 0, iav 0, iav 0, iav 0, .nils, sav es, sav es, sav es, sav es, sav es, bav false, bav false, kav n.kind, sav n.name.sp, sav n.name.pf, sav n.name.lc, sav n.pub, sav n.sys, .imm (.sl (n.data.map u16)), .imm (.sl (n.attrs.map Attr.iv)), iav n.parent, .imm (.sl (n.kids.map i64)), iav n.doc, iav n.host, iav n.shadow, kav n.mode, bav n.manual, bav n.html, .nils, .nils, iav 0, iav 0]
def rawIn (node parent index : Int) : AV := .agg [kav 2, iav node, iav parent, iav index, iav 0, iav 0, iav 0, iav 0, .nils, sav es, sav es, sav es, sav es, sav es, bav false, bav false, kav 0, sav es, sav es, sav es, sav es, sav es, .nils, .nils, iav 0, .nils, iav 0, iav 0, iav 0, kav 0, bav false, bav false, .nils, .nils, iav 0, iav 0]
theorem GenC.cv {P : Program} {f : FuncId} {hp0 hp1 : List Blk} {aa ab : List AV} {r : AV} (h : GenC P f hp0 aa r hp1) (e : ab.map A.cv = aa) : GenC P f hp0 ab r hp1 :=
  ⟨h.1, fun W X γ κ xs hC hx => h.2 W X γ κ xs hC (by rw [← e]; exact qia hx)⟩
theorem qn3 (p q : PS) (n : Node) (b : Bool) (hl : p.F.length ≤ 1000000000) (hL : p.L.length ≤ 1000000) (h : DoR p (mkCh (p.F.length + 1) n) q b) : GenC Tryz.prog 43 [⟨112, 3, [[.imm (.sl (p.F.map Node.iv)), .os 1 p.L.length, iav p.why]]⟩, ⟨58, 36, p.L.map rowC⟩] [.ptr 0 1 0 0, n.av] (iav (mkX p b)) [⟨112, 3, [[.imm (.sl (q.F.map Node.iv)), .os 1 q.L.length, iav q.why]]⟩, ⟨58, 36, q.L.map rowC⟩] := by
  have hdo : GenC Tryz.prog 45 _ [.ptr 0 1 0 0, rawMk (p.F.length + 1) n] _ _ := GenC.cv (do_c p q _ b hL h) rfl
  have hm : (p.F.map Node.iv).length = p.F.length := List.length_map _
  rw [← hm] at hdo
  refine yah tabs Tryz.func43 20 [.tmp 4] rfl rfl rfl rfl rfl ?_; intro w0 X γ κ
  (repeat' (first | ((with_reducible show AL _ _ _ _ _); first | (refine yf tabs rfl ?_; try dsimp only [len, List.nil_append, List.cons_append]) | (refine AL.op rfl (yj rfl rfl rfl rfl rfl (by omega) (by omega)) ?_) | refine yz [0, 1] 3 rfl rfl rfl rfl rfl (caps := []) rfl hdo rfl (by simp only [List.map_cons, List.map_nil, renC]; rfl) rfl rfl (by simp only [qax]; exact ⟨⟨rfl, rfl, rfl⟩, qd _ _⟩) rfl (by simp only [qax]; exact ⟨⟨rfl, rfl, rfl⟩, qd _ _⟩) rfl (hpA := [⟨112, 3, [[.imm (.sl (q.F.map Node.iv)), .os 1 q.L.length, iav q.why]]⟩, ⟨58, 36, q.L.map rowC⟩]) (by simp only [List.map_cons, List.map_nil, renC]; rfl) (r' := bav b) rfl rfl ?_ | refine yn ?_ | (refine AL.op rfl (yj rfl rfl rfl rfl rfl (by omega) (by omega)) ?_)) | refine ym ?_ | refine ya ?_ | refine yb ?_ | refine yg ?_ | refine yi rfl ?_ | refine yh rfl ?_ | (refine yk rfl (fun hc => ?_) (fun hc => ?_) <;> (try simp only [hsx] at hc) <;> (try first | omega | contradiction | (simp [qa] at hc; done))) | refine yo ?_ | refine yc ?_))
  all_goals
    try simp only [Bool.not_eq_true', Bool.not_eq_false'] at hc
    subst hc
    refine yal 2 rfl (by try rw [hm]
                         rfl) rfl rfl ?_ (by simp [cxG])
    simp only [qax]
    exact ⟨⟨rfl, rfl, rfl⟩, qd _ _⟩
theorem qeb (p : PS) (h : p.why ≠ 0) : GenC Tryz.prog 48 [⟨112, 3, [[.imm (.sl (p.F.map Node.iv)), .os 1 p.L.length, iav p.why]]⟩, ⟨58, 36, p.L.map rowC⟩] [.ptr 0 1 0 0] (.tup [.agg [.nils], .nils, iav p.why]) [⟨112, 3, [[.imm (.sl (p.F.map Node.iv)), .os 1 p.L.length, iav p.why]]⟩, ⟨58, 36, p.L.map rowC⟩] := by
  refine yah tabs Tryz.func48 55 [.cell 2 24, .tmp 3, .tmp 4] rfl rfl rfl rfl rfl ?_; intro w0 X γ κ
  (repeat' (first | ((with_reducible show AL _ _ _ _ _); first | (refine yf tabs rfl ?_; try dsimp only [len, List.nil_append, List.cons_append]) | refine yn ?_ | (refine AL.op rfl (yj rfl rfl rfl rfl rfl (by omega) (by omega)) ?_) | (refine AL.op rfl (ye tabs rfl rfl rfl rfl rfl rfl rfl (fun _ => rfl) (by decide) (by omega) (by omega)) ?_)) | ((with_reducible show DQ _ _ _ _ _ _); first | refine DQ.stepc (LS.store (i := ti24) (v := .agg [.nils]) (ty := 24) (sz := 1) (rows := [ti24.zero]) (r := ti24.zero) tabs rfl rfl rfl rfl rfl rfl rfl rfl rfl rfl (Nat.le_of_ble_eq_true rfl) rfl) rfl rfl rfl rfl rfl ?_ | refine DQ.stepc (LS.val tabs rfl rfl rfl) rfl rfl rfl rfl rfl ?_ | refine DQ.stepc (yu rfl rfl) rfl rfl rfl rfl rfl ?_ | refine DQ.nilM (by kernel_rfl) ?_ | refine DQ.stepc (yad rfl rfl rfl rfl rfl rfl (by omega) (by omega)) rfl rfl rfl rfl rfl ?_ | refine DQ.stepc (yw tabs rfl rfl rfl rfl rfl rfl rfl rfl (fun _ => rfl) (by decide) (by omega) (by omega)) rfl rfl rfl rfl rfl ?_) | refine ym ?_ | refine ya ?_ | refine yb ?_ | refine yg ?_ | refine AW.block ?_ | refine yy ?_ | refine yi rfl ?_ | refine yh rfl ?_ | (refine yk rfl (fun hc => ?_) (fun hc => ?_) <;> (try simp only [hsx] at hc) <;> (try first | omega | contradiction | (simp [qa] at hc; done))) | refine yo ?_ | refine yaa ?_ | refine yc ?_ | refine yt ?_ | refine yab ?_ | refine yx ?_ | refine InB.off rfl ?_ | refine yaf ?_ | refine yac ?_ | refine yr mixed (by kernel_rfl) ?_))
  refine yal 2 rfl rfl rfl rfl ?_ (by simp [cxG])
  simp only [qax]
  exact ⟨⟨rfl, rfl, rfl⟩, qd _ _⟩
theorem qhp (p : PS) (h : p.why = 0) (hL : p.L.length ≤ 1000000) (hL0 : p.L ≠ []) (hfc : ∀ i : Int, 0 ≤ i → i < p.L.length → FitC (atI p.L i)) : GenC Tryz.prog 48 [⟨112, 3, [[.imm (.sl (p.F.map Node.iv)), .os 1 p.L.length, iav p.why]]⟩, ⟨58, 36, p.L.map rowC⟩] [.ptr 0 1 0 0] (.tup [fav p.F, .os 3 p.L.length, iav 0]) [⟨112, 3, [[.imm (.sl (p.F.map Node.iv)), .os 1 p.L.length, iav p.why]]⟩, ⟨58, 36, p.L.map rowC⟩, ⟨24, 1, [[.imm (.sl (p.F.map Node.iv))]]⟩, ⟨58, 36, p.L.map rowC⟩] := by
  rw [h]
  have hpos : 0 < p.L.length := List.length_pos_iff.2 hL0
  have hCl : (p.L.map rowC).length = p.L.length := List.length_map _
  refine yah tabs Tryz.func48 55 [.cell 2 24, .tmp 3, .tmp 4] rfl rfl rfl rfl rfl ?_; intro w0 X γ κ
  (repeat' (first | ((with_reducible show AL _ _ _ _ _); first | (refine yf tabs rfl ?_; try dsimp only [len, List.nil_append, List.cons_append]) | refine yae rfl (yau (b := ⟨58, 36, p.L.map rowC⟩) tabs rfl rfl rfl rfl rfl rfl hCl.symm) rfl ?_ | refine yae rfl (yce (ie := ti58) tabs rfl rfl rfl rfl rfl rfl rfl (by omega) (by omega) (by omega) (by decide) rfl (by simp only [ti58]; omega)) rfl ?_ | refine yn ?_ | (refine AL.op rfl (yj rfl rfl rfl rfl rfl (by omega) (by omega)) ?_) | (refine AL.op rfl (ye tabs rfl rfl rfl rfl rfl rfl rfl (fun _ => rfl) (by decide) (by omega) (by omega)) ?_)) | ((with_reducible show DQ _ _ _ _ _ _); first | refine DQ.stepc (LS.val tabs rfl rfl rfl) rfl rfl rfl rfl rfl ?_ | refine DQ.stepc (yu rfl rfl) rfl rfl rfl rfl rfl ?_ | refine DQ.nilM (by kernel_rfl) ?_ | refine DQ.stepc (yad rfl rfl rfl rfl rfl rfl (by omega) (by omega)) rfl rfl rfl rfl rfl ?_ | refine DQ.stepc (yw tabs rfl rfl rfl rfl rfl rfl rfl rfl (fun _ => rfl) (by decide) (by omega) (by omega)) rfl rfl rfl rfl rfl ?_) | refine ym ?_ | refine ya ?_ | refine yb ?_ | refine yg ?_ | refine AW.block ?_ | refine yy ?_ | refine yi rfl ?_ | refine yh rfl ?_ | (refine yk rfl (fun hc => ?_) (fun hc => ?_) <;> (try simp only [hsx] at hc) <;> (try first | omega | contradiction | (simp [qa] at hc; done))) | refine yo ?_ | refine yaa ?_ | refine yc ?_ | refine yt ?_ | refine yab ?_ | refine yx ?_ | refine InB.off rfl ?_ | refine yaf ?_ | refine yac ?_ | refine yr mixed (by kernel_rfl) ?_))
  refine yao (α := Int) (fun i => ⟨[(0, .ptr 0 1 0 0), (2, .ptr 2 1 0 0), (5, .os 3 (p.L.take i.toNat).length), (38, .os 1 p.L.length), (39, iav p.L.length), (40, iav i)], [⟨112, 3, [[.imm (.sl (p.F.map Node.iv)), .os 1 p.L.length, iav 0]]⟩, ⟨58, 36, p.L.map rowC⟩, ⟨24, 1, [[.nils]]⟩, ⟨58, 36, (p.L.take i.toNat).map rowC⟩]⟩) (fun i => 0 ≤ i ∧ i ≤ p.L.length) (fun i => (p.L.length - i).toNat) 0 (yag 4 rfl (by repeat' (first | exact trivial | refine ⟨rfl, ?_⟩)) rfl (by simp only [qax]; exact ⟨⟨rfl, rfl, rfl⟩, qd _ _, rfl, qd _ _⟩) (by simp [cxG])) ⟨by omega, by omega⟩ ?_
  intro i ⟨h0, h1⟩
  (repeat' (first | ((with_reducible show AL _ _ _ _ _); first | (refine yf tabs rfl ?_; try dsimp only [len, List.nil_append, List.cons_append]) | refine yae rfl (yan (b := ⟨58, 36, p.L.map rowC⟩) tabs rfl rfl rfl rfl rfl rfl rfl rfl hCl.symm rfl (by omega) (by omega)) rfl ?_ | refine yae rfl (ya8 (i := ti58) (g := rowC) (xs := p.L) (v := (atI p.L i).av) tabs rfl rfl rfl rfl rfl rfl (by omega) (by omega) rfl) rfl ?_ | refine AL.op rfl (yd rfl rfl rfl rfl (qf7 (atI p.L i) (hfc i (by omega) (by omega))) rfl) ?_ | refine yae rfl (ybb (ie := ti58) (xs := p.L.take i.toNat) (ys := [atI p.L i]) (g := rowC) (ty := 58) (sz := 36) tabs rfl rfl rfl rfl rfl rfl rfl rfl rfl rfl (SrcA.own tabs rfl rfl rfl (b := ⟨58, 36, [atI p.L i].map rowC⟩) rfl rfl rfl (by simp [rowC, Change.iv, ti58]) (by simp [rowC, Change.iv, AV.cell])) (by simp [ti58]; omega) (by simp; omega)) rfl ?_ | refine yn ?_ | (refine AL.op rfl (yj rfl rfl rfl rfl rfl (by omega) (by omega)) ?_) | (refine AL.op rfl (ye tabs rfl rfl rfl rfl rfl rfl rfl (fun _ => rfl) (by decide) (by omega) (by omega)) ?_)) | ((with_reducible show DQ _ _ _ _ _ _); first | refine DQ.stepc (LS.val tabs rfl rfl rfl) rfl rfl rfl rfl rfl ?_ | refine DQ.stepc (yu rfl rfl) rfl rfl rfl rfl rfl ?_ | refine DQ.nilM (by kernel_rfl) ?_ | refine DQ.stepc (yad rfl rfl rfl rfl rfl rfl (by omega) (by omega)) rfl rfl rfl rfl rfl ?_ | refine DQ.stepc (yw tabs rfl rfl rfl rfl rfl rfl rfl rfl (fun _ => rfl) (by decide) (by omega) (by omega)) rfl rfl rfl rfl rfl ?_) | refine ym ?_ | refine ya ?_ | refine yb ?_ | refine yg ?_ | refine AW.block ?_ | refine yy ?_ | refine yi rfl ?_ | refine yh rfl ?_ | (refine yk rfl (fun hc => ?_) (fun hc => ?_) <;> (try simp only [hsx] at hc) <;> (try first | omega | contradiction | (simp [qa] at hc; done))) | refine yo ?_ | refine yaa ?_ | refine yc ?_ | refine yt ?_ | refine yab ?_ | refine yx ?_ | refine InB.off rfl ?_ | refine yaf ?_ | refine yac ?_ | refine yr mixed (by kernel_rfl) ?_))
  · refine yak (i + 1) (yag 4 (by rw [qg h0 (by assumption)]; rfl) ⟨rfl, rfl, by rw [qg h0 (by assumption)]; rfl, rfl, rfl, rfl, trivial⟩ rfl (by simp only [qax]; exact ⟨⟨rfl, rfl, rfl⟩, qd _ _, rfl, qd _ _⟩) (by simp [cxG])) ⟨by omega, by omega⟩ (by omega)
  · have e : p.L.take i.toNat = p.L := qo hc
    refine yal 4 rfl (by rw [e]; rfl) (by rw [e]; rfl) rfl ?_ (by simp [cxG])
    simp only [qax]
    exact ⟨⟨rfl, rfl, rfl⟩, qd _ _, rfl, qd _ _⟩
open Go.RowKit
section
variable {C : Cx} {s t : St} {γ : Nat → Option Nat} {κ : Nat → Nat} {a : Act} {W : World} {o : Oper} {T : List (Nat × TI)} {l r rest : List Oper} {Q : Exit → St → Prop}
theorem Conc.recell (hC : Conc C s γ κ a W) {p : Nat} {b : Blk} (hb : s.hp[p]? = some b) {rows' : List (List AV)} (hlen : rows'.length = b.rows.length) (hr : ∀ r ∈ rows', r.length = b.sz) (hc : ∀ c ∈ rows'.flatten, c.cell = true)
    (h : ∀ ys, All2 (RepA (St.mm ⟨s.env, s.hp.set p ⟨b.ty, b.sz, rows'⟩⟩ C γ κ W)) b.rows.flatten ys → All2 (RepA (St.mm ⟨s.env, s.hp.set p ⟨b.ty, b.sz, rows'⟩⟩ C γ κ W)) rows'.flatten ys) : Conc C ⟨s.env, s.hp.set p ⟨b.ty, b.sz, rows'⟩⟩ γ κ a W := by
  have hp : p < s.hp.length := (List.getElem?_eq_some_iff.1 hb).1
  have hK : Keep (s.mm C γ κ W) (St.mm ⟨s.env, s.hp.set p ⟨b.ty, b.sz, rows'⟩⟩ C γ κ W) := by
    refine ⟨fun x hx _ => ⟨rfl, ?_⟩, fun id bb hbb => ?_⟩
    · show ¬ nset C.X γ (s.hp.set p _).length x
      rw [List.length_set]; exact hx
    · have hbb' : s.hp[id]? = some bb := hbb
      by_cases e : p = id
      · subst e
        rw [hb] at hbb'
        cases hbb'
        refine ⟨⟨b.ty, b.sz, rows'⟩, ?_, rfl, by simp [hlen], fun _ => ⟨rfl, rfl⟩⟩
        show (s.hp.set p _)[p]? = _
        rw [List.getElem?_set_self hp]
      · refine ⟨bb, ?_, rfl, Nat.le_refl _, fun _ => ⟨rfl, rfl⟩⟩
        show (s.hp.set p _)[id]? = _
        rw [List.getElem?_set_ne e]; exact hbb'
  refine ⟨hC.size, hC.defers, ?_, ?_, ?_, ?_, hC.xlt, hC.old, hC.hos, hC.htape, hC.hout, hC.hsize, hC.lent.keep hK⟩
  · intro t v h
    obtain ⟨x, h1, h2⟩ := hC.env t v h
    exact ⟨x, h1, h2.keep hK⟩
  · intro id bb hbb
    have hbb' : (s.hp.set p ⟨b.ty, b.sz, rows'⟩)[id]? = some bb := hbb
    by_cases e : p = id
    · subst e
      rw [List.getElem?_set_self hp] at hbb'
      obtain rfl := Option.some.inj hbb'
      have hB := hC.blk p b hb
      refine ⟨hB.pos, hr, hc, by rw [show (⟨b.ty, b.sz, rows'⟩ : Blk).rows.length = b.rows.length from hlen]; exact hB.cap, hB.capm, ?_⟩
      rcases hB.mem with ⟨h1, h2, h3⟩ | ⟨g, ys, sp, h1, h2, h3, h4⟩
      · refine .inl ⟨h1, ?_, h3⟩
        show rows' = []
        rw [h2] at hlen
        exact List.length_eq_zero_iff.1 hlen
      · exact .inr ⟨g, ys, sp, h1, h2, h3, h ys (h4.mono fun _ _ h => h.keep hK)⟩
    · rw [List.getElem?_set_ne e] at hbb'
      have hB := hC.blk id bb hbb'
      refine ⟨hB.pos, hB.rows, hB.cell, hB.cap, hB.capm, ?_⟩
      rcases hB.mem with h | ⟨g, ys, sp, h1, h2, h3, h4⟩
      · exact .inl h
      · exact .inr ⟨g, ys, sp, h1, h2, h3, h4.mono fun _ _ h => h.keep hK⟩
  · intro i j g hi hj h1 h2
    exact hC.inj i j g (by simpa using hi) (by simpa using hj) h1 h2
  · intro i g hi hg
    exact hC.own i g (by simpa using hi) hg
theorem yb5 (p off ty2 sz2 : Nat) (hpos : Nat.blt 0 sz2 = true) {ty sz : Nat} {r : List AV} (hp : nth s.hp p = some ⟨ty, sz, [r]⟩) (hoff : nth r off = some .nils) : Le C s ⟨s.env, s.hp.set p ⟨ty, sz, [r.set off (.os (len s.hp) 0)]⟩ ++ [⟨ty2, sz2, []⟩]⟩ := by
  intro γ κ a W hC
  rw [Nat.blt_eq] at hpos
  rw [qm] at hp hoff
  have hpl : p < s.hp.length := (List.getElem?_eq_some_iff.1 hp).1
  obtain ⟨γ', κ', h1, h2, h3, hK⟩ := hC.reserve ty2 sz2 hpos
  have hb : (s.hp ++ [(⟨ty2, sz2, []⟩ : Blk)])[p]? = some ⟨ty, sz, [r]⟩ := by rw [List.getElem?_append_left hpl]; exact hp
  have hB := hC.blk p _ hp
  have hrl : r.length = sz := hB.rows r (by simp)
  refine ⟨γ', κ', ?_⟩
  have := h1.recell (p := p) hb (rows' := [r.set off (.os (len s.hp) 0)]) rfl (by
    intro q hq
    simp only [List.mem_singleton] at hq
    subst hq
    simpa using hrl) (by
    intro c hc
    simp only [List.flatten_cons, List.flatten_nil, List.append_nil] at hc
    rcases List.mem_or_eq_of_mem_set hc with h | h
    · exact hB.cell c (by simpa using h)
    · subst h; rfl) (by
    intro ys hy
    simp only [List.flatten_cons, List.flatten_nil, List.append_nil] at hy ⊢
    obtain ⟨y, y1, y2⟩ := hy.get hoff
    have hos : RepA (St.mm ⟨s.env, (s.hp ++ [(⟨ty2, sz2, []⟩ : Blk)]).set p ⟨ty, sz, [r.set off (.os (len s.hp) 0)]⟩⟩ C γ' κ' W) (.os (len s.hp) 0) y := by
      cases y2
      rw [qq]
      refine .os _ _ ⟨ty2, sz2, []⟩ _ _ _ ?_ (Nat.le_refl _) fun _ => ⟨?_, rfl, h3.symm⟩
      · show ((s.hp ++ [(⟨ty2, sz2, []⟩ : Blk)]).set p _)[s.hp.length]? = _
        rw [List.getElem?_set_ne (by omega)]
        simp
      · show none = (γ' s.hp.length).map _
        rw [h2]; rfl
    have := hy.set hos off
    have e : ys.set off y = ys := by
      apply List.ext_getElem?
      intro j
      by_cases e : off = j
      · subst e
        rw [List.getElem?_set_self (List.getElem?_eq_some_iff.1 y1).1, y1]
      · rw [List.getElem?_set_ne e]
    rw [e] at this
    exact this)
  rw [List.set_append, if_pos hpl] at this
  exact this
theorem OpOK.boxAt (p : Nat) (hd : dok C.nt o.dst = true) {t : TypeId} {x : Operand} (ho : o.op = .box t x) {q : AV} (hx : s.ev x = some q) {sz : Nat} (hp : nth s.hp p = some ⟨t, sz, []⟩) (hl : Nat.beq (len (avCells q)) sz = true) (hcell : (avCells q).all AV.cell = true) : OpOK C s o (St.put ⟨s.env, s.hp.set p ⟨t, sz, [avCells q]⟩⟩ o.dst (.ptr p 1 0 0)) := by
  have hl' := Nat.eq_of_beq_eq_true hl
  rw [qq] at hl'
  rw [qm] at hp
  refine yb4 hd hp hl' hcell fun γ κ a W hC => ?_
  refine ⟨_, (hC.ev hx).cells, ?_⟩
  unfold execOp; rw [ho]
  refine qr ?_
  unfold Instr.box
  rw [Array.toArray_toList]
  rfl
end
theorem qa5 (n : Node) (hn : FitN n) : PureC Tryz.prog 38 [n.av] n.av := by
  refine yp tabs Tryz.func38 19 [.cell 2 44] rfl rfl rfl rfl rfl ?_; intro w0 X
  (repeat' (first | ((with_reducible show AL _ _ _ _ _); first | (refine yf tabs rfl ?_; try dsimp only [len, List.nil_append, List.cons_append]) | refine yae rfl (yam (ie := ti55) (b := ⟨55, 1, []⟩) tabs rfl rfl rfl rfl rfl rfl rfl rfl rfl rfl (SrcA.imm (rows := n.data.map u16) tabs rfl rfl rfl (by simp [i64, u16, Attr.iv, ti3, ti55, ti104])) (by have := hn.data; have := hn.attrs; have := hn.kids; simp [ti3, ti55, ti104, chunk]; omega) (by have := hn.data; have := hn.attrs; have := hn.kids; simp [chunk]; omega)) rfl ?_ | refine yae rfl (yam (ie := ti104) (b := ⟨104, 4, []⟩) tabs rfl rfl rfl rfl rfl rfl rfl rfl rfl rfl (SrcA.imm (rows := n.attrs.map Attr.iv) tabs rfl rfl rfl (by simp [i64, u16, Attr.iv, ti3, ti55, ti104])) (by have := hn.data; have := hn.attrs; have := hn.kids; simp [ti3, ti55, ti104, chunk]; omega) (by have := hn.data; have := hn.attrs; have := hn.kids; simp [chunk]; omega)) rfl ?_ | refine yae rfl (yam (ie := ti3) (b := ⟨3, 1, []⟩) tabs rfl rfl rfl rfl rfl rfl rfl rfl rfl rfl (SrcA.imm (rows := n.kids.map i64) tabs rfl rfl rfl (by simp [i64, u16, Attr.iv, ti3, ti55, ti104])) (by have := hn.data; have := hn.attrs; have := hn.kids; simp [ti3, ti55, ti104, chunk]; omega) (by have := hn.data; have := hn.attrs; have := hn.kids; simp [chunk]; omega)) rfl ?_ | refine yn ?_) | refine ym ?_ | refine ya ?_ | refine yb ?_ | refine yg ?_ | refine yo ?_ | refine yc ?_))
  exact RQ.norm rfl (ybs (.cons (Fz.im rfl) (.cons (Fz.im rfl) (.cons (Fz.im rfl) (.cons (Fz.im rfl) (.cons (Fz.im rfl) (.cons (Fz.im rfl) (.cons (Fz.os (b := ⟨55, 1, (n.data.map u16).map (·.map .imm)⟩) (rows := n.data.map u16) rfl (by simp) rfl) (.cons (Fz.os (b := ⟨104, 4, (n.attrs.map Attr.iv).map (·.map .imm)⟩) (rows := n.attrs.map Attr.iv) rfl (by simp) rfl) (.cons (Fz.im rfl) (.cons (Fz.os (b := ⟨3, 1, (n.kids.map i64).map (·.map .imm)⟩) (rows := n.kids.map i64) rfl (by simp) rfl) (.cons (Fz.im rfl) (.cons (Fz.im rfl) (.cons (Fz.im rfl) (.cons (Fz.im rfl) (.cons (Fz.im rfl) (.cons (Fz.im rfl) .nil)))))))))))))))))
theorem qm3 (f : List Node) (hf : Fit f) : PureC Tryz.prog 11 [fav f] (fav f) := by
  have hl := hf.len
  have hm : (List.map Node.iv f).length = f.length := List.length_map _
  refine yp tabs Tryz.func11 23 [.cell 2 24] rfl rfl rfl rfl rfl ?_; intro w0 X
  (repeat' (first | ((with_reducible show AL _ _ _ _ _); first | (refine yf tabs rfl ?_; try dsimp only [len, List.nil_append, List.cons_append]) | refine yn ?_ | (refine AL.op rfl (yj rfl rfl rfl rfl rfl (by omega) (by omega)) ?_) | (refine AL.op rfl (ye tabs rfl rfl rfl rfl rfl rfl rfl (fun _ => rfl) (by decide) (by omega) (by omega)) ?_)) | ((with_reducible show DQ _ _ _ _ _ _); first | refine DQ.stepc (LS.val tabs rfl rfl rfl) rfl rfl rfl rfl rfl ?_ | refine DQ.stepc (yu rfl rfl) rfl rfl rfl rfl rfl ?_ | refine DQ.nilM (by kernel_rfl) ?_ | refine DQ.stepc (yad rfl rfl rfl rfl rfl rfl (by omega) (by omega)) rfl rfl rfl rfl rfl ?_ | refine DQ.stepc (yw tabs rfl rfl rfl rfl rfl rfl rfl rfl (fun _ => rfl) (by decide) (by omega) (by omega)) rfl rfl rfl rfl rfl ?_) | fail | refine ym ?_ | refine ya ?_ | refine yb ?_ | refine yg ?_ | refine AW.block ?_ | refine yy ?_ | refine yi rfl ?_ | refine yh rfl ?_ | (refine yk rfl (fun hc => ?_) (fun hc => ?_) <;> (try simp only [hsx] at hc) <;> (try first | omega | contradiction | (simp [qa] at hc; done))) | refine yo ?_ | refine yaa ?_ | refine yc ?_ | refine yt ?_ | refine yab ?_ | refine yx ?_ | refine InB.off rfl ?_ | refine yaf ?_ | refine yac ?_ | refine yr mixed (by kernel_rfl) ?_))
  refine yao (α := Int) (fun i => ⟨[(2, .ptr 1 1 0 0), (3, .ptr 2 1 0 0), (8, .imm (.sl (f.map Node.iv))), (9, iav (List.map Node.iv f).length), (10, iav i)], [⟨24, 1, [[.imm (.sl (f.map Node.iv))]]⟩, ⟨24, 1, [[.nils]]⟩, ⟨24, 1, [[.os 3 (f.take i.toNat).length]]⟩, ⟨44, 16, (f.take i.toNat).map rowS⟩]⟩) (fun i => 0 ≤ i ∧ i ≤ f.length) (fun i => (f.length - i).toNat) 0 (Le.trans (yb5 2 0 44 16 (ty := 24) (sz := 1) (r := [.nils]) rfl rfl rfl) (yag 4 rfl (by repeat' (first | exact trivial | refine ⟨rfl, ?_⟩)) rfl (by simp only [qax]; exact ⟨rfl, rfl, rfl, qb _ _⟩) (Nat.zero_le _))) ⟨by omega, by omega⟩ ?_
  intro i ⟨h0, h1⟩
  refine AW.reserve 44 16 rfl ?_
  (repeat' (first | ((with_reducible show AL _ _ _ _ _); first | (refine yf tabs rfl ?_; try dsimp only [len, List.nil_append, List.cons_append]) | refine yn ?_ | (refine AL.op rfl (yj rfl rfl rfl rfl rfl (by omega) (by omega)) ?_) | (refine AL.op rfl (ye tabs rfl rfl rfl rfl rfl rfl rfl (fun _ => rfl) (by decide) (by omega) (by omega)) ?_)) | ((with_reducible show DQ _ _ _ _ _ _); first | refine DQ.stepc (yai rfl rfl rfl rfl rfl (qa5 (atI f i) (hf.atI i (by omega) (by omega))) rfl) rfl rfl rfl rfl rfl ?_ | refine DQ.stepc (ya9 4 tabs rfl rfl rfl rfl rfl rfl rfl rfl rfl rfl rfl rfl) rfl rfl rfl rfl rfl ?_ | refine DQ.stepc (yaw (ie := ti44) (ty := 44) (sz := 16) (rows := (f.take i.toNat).map rowS) (rows2 := [rowS (atI f i)]) tabs rfl rfl rfl rfl rfl rfl rfl rfl (List.length_map _).symm rfl rfl (fun s' hl => hl.srcOwn (by simp [Op.operands, Call.operands]) tabs rfl rfl (b := ⟨44, 16, [rowS (atI f i)]⟩) rfl rfl rfl rfl (by simp [rowS, Node.iv, ti44]) (by simp [rowS, Node.iv, AV.cell])) (by simp [ti44]; omega) (by simp; omega)) rfl rfl rfl rfl rfl ?_ | refine DQ.stepc (LS.store (i := ti22) (v := .os 3 ((f.take i.toNat).length + 1)) (ty := 24) (sz := 1) (rows := [[.os 3 (f.take i.toNat).length]]) (r := [.os 3 (f.take i.toNat).length]) tabs rfl rfl rfl rfl rfl rfl rfl rfl rfl rfl (Nat.le_of_ble_eq_true rfl) rfl) rfl rfl rfl rfl rfl ?_ | refine DQ.stepc (LS.val tabs rfl rfl rfl) rfl rfl rfl rfl rfl ?_ | refine DQ.stepc (yu rfl rfl) rfl rfl rfl rfl rfl ?_ | refine DQ.nilM (by kernel_rfl) ?_ | refine DQ.stepc (yad rfl rfl rfl rfl rfl rfl (by omega) (by omega)) rfl rfl rfl rfl rfl ?_ | refine DQ.stepc (yw tabs rfl rfl rfl rfl rfl rfl rfl rfl (fun _ => rfl) (by decide) (by omega) (by omega)) rfl rfl rfl rfl rfl ?_) | refine ym ?_ | refine ya ?_ | refine yb ?_ | refine yg ?_ | refine AW.block ?_ | refine yy ?_ | refine yi rfl ?_ | refine yh rfl ?_ | (refine yk rfl (fun hc => ?_) (fun hc => ?_) <;> (try simp only [hsx] at hc) <;> (try first | omega | contradiction | (simp [qa] at hc; done))) | refine yo ?_ | refine yaa ?_ | refine yc ?_ | refine yt ?_ | refine yab ?_ | refine yx ?_ | refine InB.off rfl ?_ | refine yaf ?_ | refine yac ?_ | refine yr mixed (by kernel_rfl) ?_))
  · have hi : i < f.length := by assumption
    have e : (f.take (i + 1).toNat).map rowS = (f.take i.toNat).map rowS ++ [rowS (atI f i)] := by rw [qg h0 hi, List.map_append]; rfl
    have e2 : (f.take (i + 1).toNat).length = (f.take i.toNat).length + 1 := by rw [qg h0 hi]; simp
    exact yak (i + 1) (yag 4 (by rw [e, e2]; rfl) (by repeat' (first | exact trivial | refine ⟨rfl, ?_⟩)) rfl (by simp only [qax]; exact ⟨rfl, rfl, rfl, qb _ _⟩) (Nat.zero_le _)) ⟨by omega, by omega⟩ (by omega)
  · refine yap rfl ?_
    rw [qo hc]
    exact fzS (f := f) (id := 3) rfl
theorem qhq (c : Change) (hk : c.kind = 1) : PureC Tryz.prog 138 [c.av] (plainMk c).av := by
  refine yp tabs Tryz.func138 117 [.cell 2 58] rfl rfl rfl rfl rfl ?_; intro w0 X
  (repeat' (first | ((with_reducible show AL _ _ _ _ _); first | (refine yf tabs rfl ?_; try dsimp only [len, List.nil_append, List.cons_append]) | refine yn ?_) | ((with_reducible show DQ _ _ _ _ _ _); first | refine DQ.stepc (LS.store (i := ti3) (v := iav c.node) (ty := 58) (sz := 36) (rows := [[kav c.kind, iav 0, iav 0, iav 0, iav 0, iav 0, iav 0, iav 0, .nils, sav es, sav es, sav es, sav es, sav es, bav false, bav false, kav 0, sav es, sav es, sav es, sav es, sav es, .nils, .nils, iav 0, .nils, iav 0, iav 0, iav 0, kav 0, bav false, bav false, .nils, .nils, iav 0, iav 0]]) (r := [kav c.kind, iav 0, iav 0, iav 0, iav 0, iav 0, iav 0, iav 0, .nils, sav es, sav es, sav es, sav es, sav es, bav false, bav false, kav 0, sav es, sav es, sav es, sav es, sav es, .nils, .nils, iav 0, .nils, iav 0, iav 0, iav 0, kav 0, bav false, bav false, .nils, .nils, iav 0, iav 0]) tabs rfl rfl rfl rfl rfl rfl rfl rfl rfl rfl (Nat.le_of_ble_eq_true rfl) rfl) rfl rfl rfl rfl rfl ?_ | refine DQ.stepc (LS.store (i := ti44) (v := c.made.av) (ty := 58) (sz := 36) (rows := [[kav c.kind, iav c.node, iav 0, iav 0, iav 0, iav 0, iav 0, iav 0, .nils, sav es, sav es, sav es, sav es, sav es, bav false, bav false, kav 0, sav es, sav es, sav es, sav es, sav es, .nils, .nils, iav 0, .nils, iav 0, iav 0, iav 0, kav 0, bav false, bav false, .nils, .nils, iav 0, iav 0]]) (r := [kav c.kind, iav c.node, iav 0, iav 0, iav 0, iav 0, iav 0, iav 0, .nils, sav es, sav es, sav es, sav es, sav es, bav false, bav false, kav 0, sav es, sav es, sav es, sav es, sav es, .nils, .nils, iav 0, .nils, iav 0, iav 0, iav 0, kav 0, bav false, bav false, .nils, .nils, iav 0, iav 0]) tabs rfl rfl rfl rfl rfl rfl rfl rfl rfl rfl (Nat.le_of_ble_eq_true rfl) rfl) rfl rfl rfl rfl rfl ?_ | refine DQ.stepc (LS.val tabs rfl rfl rfl) rfl rfl rfl rfl rfl ?_ | refine DQ.stepc (yu rfl rfl) rfl rfl rfl rfl rfl ?_ | refine DQ.nilM (by kernel_rfl) ?_) | (exfalso; omega) | refine ym ?_ | refine ya ?_ | refine yb ?_ | refine yg ?_ | refine AW.block ?_ | refine yy ?_ | refine yi rfl ?_ | refine yh rfl ?_ | (refine yk rfl (fun hc => ?_) (fun hc => ?_) <;> (try simp only [hsx] at hc) <;> (try first | omega | contradiction | (simp [qa] at hc; done))) | refine yo ?_ | refine yaa ?_ | refine yc ?_ | refine yt ?_ | refine yab ?_ | refine yx ?_ | refine InB.off rfl ?_ | refine yr mixed (by kernel_rfl) ?_))
  exact RQ.fin rfl rfl rfl
theorem qhr (c : Change) (hk : c.kind = 2) : PureC Tryz.prog 138 [c.av] (plainLn c).av := by
  refine yp tabs Tryz.func138 117 [.cell 2 58] rfl rfl rfl rfl rfl ?_; intro w0 X
  (repeat' (first | ((with_reducible show AL _ _ _ _ _); first | (refine yf tabs rfl ?_; try dsimp only [len, List.nil_append, List.cons_append]) | refine yn ?_) | ((with_reducible show DQ _ _ _ _ _ _); first | refine DQ.stepc (LS.store (i := ti3) (v := iav c.node) (ty := 58) (sz := 36) (rows := [[kav c.kind, iav 0, iav 0, iav 0, iav 0, iav 0, iav 0, iav 0, .nils, sav es, sav es, sav es, sav es, sav es, bav false, bav false, kav 0, sav es, sav es, sav es, sav es, sav es, .nils, .nils, iav 0, .nils, iav 0, iav 0, iav 0, kav 0, bav false, bav false, .nils, .nils, iav 0, iav 0]]) (r := [kav c.kind, iav 0, iav 0, iav 0, iav 0, iav 0, iav 0, iav 0, .nils, sav es, sav es, sav es, sav es, sav es, bav false, bav false, kav 0, sav es, sav es, sav es, sav es, sav es, .nils, .nils, iav 0, .nils, iav 0, iav 0, iav 0, kav 0, bav false, bav false, .nils, .nils, iav 0, iav 0]) tabs rfl rfl rfl rfl rfl rfl rfl rfl rfl rfl (Nat.le_of_ble_eq_true rfl) rfl) rfl rfl rfl rfl rfl ?_ | refine DQ.stepc (LS.store (i := ti3) (v := iav c.parent) (ty := 58) (sz := 36) (rows := [[kav c.kind, iav c.node, iav 0, iav 0, iav 0, iav 0, iav 0, iav 0, .nils, sav es, sav es, sav es, sav es, sav es, bav false, bav false, kav 0, sav es, sav es, sav es, sav es, sav es, .nils, .nils, iav 0, .nils, iav 0, iav 0, iav 0, kav 0, bav false, bav false, .nils, .nils, iav 0, iav 0]]) (r := [kav c.kind, iav c.node, iav 0, iav 0, iav 0, iav 0, iav 0, iav 0, .nils, sav es, sav es, sav es, sav es, sav es, bav false, bav false, kav 0, sav es, sav es, sav es, sav es, sav es, .nils, .nils, iav 0, .nils, iav 0, iav 0, iav 0, kav 0, bav false, bav false, .nils, .nils, iav 0, iav 0]) tabs rfl rfl rfl rfl rfl rfl rfl rfl rfl rfl (Nat.le_of_ble_eq_true rfl) rfl) rfl rfl rfl rfl rfl ?_ | refine DQ.stepc (LS.store (i := ti3) (v := iav c.index) (ty := 58) (sz := 36) (rows := [[kav c.kind, iav c.node, iav c.parent, iav 0, iav 0, iav 0, iav 0, iav 0, .nils, sav es, sav es, sav es, sav es, sav es, bav false, bav false, kav 0, sav es, sav es, sav es, sav es, sav es, .nils, .nils, iav 0, .nils, iav 0, iav 0, iav 0, kav 0, bav false, bav false, .nils, .nils, iav 0, iav 0]]) (r := [kav c.kind, iav c.node, iav c.parent, iav 0, iav 0, iav 0, iav 0, iav 0, .nils, sav es, sav es, sav es, sav es, sav es, bav false, bav false, kav 0, sav es, sav es, sav es, sav es, sav es, .nils, .nils, iav 0, .nils, iav 0, iav 0, iav 0, kav 0, bav false, bav false, .nils, .nils, iav 0, iav 0]) tabs rfl rfl rfl rfl rfl rfl rfl rfl rfl rfl (Nat.le_of_ble_eq_true rfl) rfl) rfl rfl rfl rfl rfl ?_ | refine DQ.stepc (LS.val tabs rfl rfl rfl) rfl rfl rfl rfl rfl ?_ | refine DQ.stepc (yu rfl rfl) rfl rfl rfl rfl rfl ?_ | refine DQ.nilM (by kernel_rfl) ?_) | (exfalso; omega) | refine ym ?_ | refine ya ?_ | refine yb ?_ | refine yg ?_ | refine AW.block ?_ | refine yy ?_ | refine yi rfl ?_ | refine yh rfl ?_ | (refine yk rfl (fun hc => ?_) (fun hc => ?_) <;> (try simp only [hsx] at hc) <;> (try first | omega | contradiction | (simp [qa] at hc; done))) | refine yo ?_ | refine yaa ?_ | refine yc ?_ | refine yt ?_ | refine yab ?_ | refine yx ?_ | refine InB.off rfl ?_ | refine yr mixed (by kernel_rfl) ?_))
  exact RQ.fin rfl rfl rfl
theorem qcn (a b : Change) (ha : FitC a) : PureC Tryz.prog 92 [a.av, b.av] (bav (dec (a = b))) := by
  refine yp tabs Tryz.func92 132 [.tmp 4] rfl rfl rfl rfl rfl ?_; intro w0 X
  (repeat' (first | ((with_reducible show AL _ _ _ _ _); first | (refine yf tabs rfl ?_; try dsimp only [len, List.nil_append, List.cons_append]) | refine AL.op rfl (yd rfl rfl rfl rfl (qg3 a.data b.data ha.data) rfl) ?_ | refine AL.op rfl (yd rfl rfl rfl rfl (qdq a.made b.made ha.made) rfl) ?_ | refine AL.op rfl (yd rfl rfl rfl rfl (qf5 a.added b.added ha.added) rfl) ?_ | refine AL.op rfl (yd rfl rfl rfl rfl (qf5 a.removed b.removed ha.removed) rfl) ?_ | refine yn ?_ | (refine yq rfl rfl rfl (fun hc => ?_) (fun hc => ?_) <;> (fail_if_success (exact absurd hc (by decide))) <;> (try simp only [hsx] at hc) <;> (try first | omega | contradiction | (simp [qa] at hc; done))) | (refine AL.op rfl (ya6 rfl rfl rfl rfl eqt39 rfl rfl) ?_)) | refine ym ?_ | refine ya ?_ | refine yb ?_ | refine yg ?_ | refine yi rfl ?_ | refine yh rfl ?_ | (refine yk rfl (fun hc => ?_) (fun hc => ?_) <;> (try simp only [hsx] at hc) <;> (try first | omega | contradiction | (simp [qa] at hc; done))) | refine yo ?_ | refine yc ?_))
  all_goals
    refine RQ.fin rfl rfl (congrArg bav ?_)
    rw [Bool.eq_iff_iff]
    simp only [Bool.and_eq_true, Bool.and_eq_false_iff, qc, qi, qfg, qce, beq_iff_eq] at *
    grind
theorem qd1 (a b : List Change) (ha : ∀ c ∈ a, FitC c) (hl : a.length ≤ 1000000000) : PureC Tryz.prog 57 [.imm (.sl (a.map Change.iv)), .imm (.sl (b.map Change.iv))] (bav (dec (a = b))) := by
  refine yp tabs Tryz.func57 27 [.tmp 4] rfl rfl rfl rfl rfl ?_; intro w0 X
  (repeat' (first | ((with_reducible show AL _ _ _ _ _); first | (refine yf tabs rfl ?_; try dsimp only [len, List.nil_append, List.cons_append]) | refine yn ?_ | (refine AL.op rfl (yj rfl rfl rfl rfl rfl (by omega) (by omega)) ?_) | (refine AL.op rfl (ye tabs rfl rfl rfl rfl rfl rfl rfl (fun _ => rfl) (by decide) (by omega) (by omega)) ?_)) | ((with_reducible show DQ _ _ _ _ _ _); first | refine DQ.stepc (LS.val tabs rfl rfl rfl) rfl rfl rfl rfl rfl ?_ | refine DQ.stepc (yu rfl rfl) rfl rfl rfl rfl rfl ?_ | refine DQ.nilM (by kernel_rfl) ?_ | refine DQ.stepc (yad rfl rfl rfl rfl rfl rfl (by omega) (by omega)) rfl rfl rfl rfl rfl ?_ | refine DQ.stepc (yw tabs rfl rfl rfl rfl rfl rfl rfl rfl (fun _ => rfl) (by decide) (by omega) (by omega)) rfl rfl rfl rfl rfl ?_) | fail | refine ym ?_ | refine ya ?_ | refine yb ?_ | refine yg ?_ | refine AW.block ?_ | refine yy ?_ | refine yi rfl ?_ | refine yh rfl ?_ | (refine yk rfl (fun hc => ?_) (fun hc => ?_) <;> (try simp only [hsx] at hc) <;> (try first | omega | contradiction | (simp [qa] at hc; done))) | refine yo ?_ | refine yaa ?_ | refine yc ?_ | refine yt ?_ | refine yab ?_ | refine yx ?_ | refine InB.off rfl ?_ | refine yaf ?_ | refine yac ?_ | refine yr mixed (by kernel_rfl) ?_))
  · rw [qu (p := a = b) (fun e => by subst e; exact hc rfl)]
    exact RQ.fin rfl rfl rfl
  have hlen : a.length = b.length := by omega
  clear hc
  refine yao (α := Int) (fun i => ⟨[(0, .imm (.sl (a.map Change.iv))), (1, .imm (.sl (b.map Change.iv))), (12, iav (a.map Change.iv).length), (13, iav i)], []⟩) (fun i => 0 ≤ i ∧ i ≤ a.length ∧ a.take i.toNat = b.take i.toNat) (fun i => (a.length - i).toNat) 0 (yag 0 rfl (by repeat' (first | exact trivial | refine ⟨rfl, ?_⟩)) rfl rfl (Nat.zero_le _)) ⟨by omega, by omega, rfl⟩ ?_
  intro i ⟨h0, h1, h2⟩
  by_cases hi : i < a.length
  · have hci := ha _ (qau h0 hi)
    (repeat' (first | ((with_reducible show AL _ _ _ _ _); first | (refine yf tabs rfl ?_; try dsimp only [len, List.nil_append, List.cons_append]) | refine yn ?_ | (refine AL.op rfl (yj rfl rfl rfl rfl rfl (by omega) (by omega)) ?_) | (refine AL.op rfl (ye tabs rfl rfl rfl rfl rfl rfl rfl (fun _ => rfl) (by decide) (by omega) (by omega)) ?_)) | ((with_reducible show DQ _ _ _ _ _ _); first | refine DQ.stepc (yai rfl rfl rfl rfl rfl (qcn (atI a i) (atI b i) hci) rfl) rfl rfl rfl rfl rfl ?_ | refine DQ.stepc (LS.val tabs rfl rfl rfl) rfl rfl rfl rfl rfl ?_ | refine DQ.stepc (yu rfl rfl) rfl rfl rfl rfl rfl ?_ | refine DQ.nilM (by kernel_rfl) ?_ | refine DQ.stepc (yad rfl rfl rfl rfl rfl rfl (by omega) (by omega)) rfl rfl rfl rfl rfl ?_ | refine DQ.stepc (yw tabs rfl rfl rfl rfl rfl rfl rfl rfl (fun _ => rfl) (by decide) (by omega) (by omega)) rfl rfl rfl rfl rfl ?_) | refine ym ?_ | refine ya ?_ | refine yb ?_ | refine yg ?_ | refine AW.block ?_ | refine yy ?_ | refine yi rfl ?_ | refine yh rfl ?_ | (refine yk rfl (fun hc => ?_) (fun hc => ?_) <;> (try simp only [hsx] at hc) <;> (try first | omega | contradiction | (simp [qa] at hc; done))) | refine yo ?_ | refine yaa ?_ | refine yc ?_ | refine yt ?_ | refine yab ?_ | refine yx ?_ | refine InB.off rfl ?_ | refine yaf ?_ | refine yac ?_ | refine yr mixed (by kernel_rfl) ?_))
    all_goals first
      | (exfalso; omega)
      | (rw [qu (p := a = b) (qcf hc)]
         exact RQ.fin rfl rfl rfl)
      | (refine yak (i + 1) (yag 0 rfl (by repeat' (first | exact trivial | refine ⟨rfl, ?_⟩)) rfl rfl (Nat.zero_le _)) ⟨by omega, by omega, ?_⟩ (by omega)
         rw [qg h0 (by assumption), qg h0 (by omega), h2, hc])
  · (repeat' (first | ((with_reducible show AL _ _ _ _ _); first | (refine yf tabs rfl ?_; try dsimp only [len, List.nil_append, List.cons_append]) | refine yn ?_ | (refine AL.op rfl (yj rfl rfl rfl rfl rfl (by omega) (by omega)) ?_) | (refine AL.op rfl (ye tabs rfl rfl rfl rfl rfl rfl rfl (fun _ => rfl) (by decide) (by omega) (by omega)) ?_)) | ((with_reducible show DQ _ _ _ _ _ _); first | refine DQ.stepc (LS.val tabs rfl rfl rfl) rfl rfl rfl rfl rfl ?_ | refine DQ.stepc (yu rfl rfl) rfl rfl rfl rfl rfl ?_ | refine DQ.nilM (by kernel_rfl) ?_ | refine DQ.stepc (yad rfl rfl rfl rfl rfl rfl (by omega) (by omega)) rfl rfl rfl rfl rfl ?_ | refine DQ.stepc (yw tabs rfl rfl rfl rfl rfl rfl rfl rfl (fun _ => rfl) (by decide) (by omega) (by omega)) rfl rfl rfl rfl rfl ?_) | fail | refine ym ?_ | refine ya ?_ | refine yb ?_ | refine yg ?_ | refine AW.block ?_ | refine yy ?_ | refine yi rfl ?_ | refine yh rfl ?_ | (refine yk rfl (fun hc => ?_) (fun hc => ?_) <;> (try simp only [hsx] at hc) <;> (try first | omega | contradiction | (simp [qa] at hc; done))) | refine yo ?_ | refine yaa ?_ | refine yc ?_ | refine yt ?_ | refine yab ?_ | refine yx ?_ | refine InB.off rfl ?_ | refine yaf ?_ | refine yac ?_ | refine yr mixed (by kernel_rfl) ?_))
    all_goals first
      | (exfalso; omega)
      | (rw [qo (by omega), qo (by omega)] at h2
         rw [qai (p := a = b) h2]; exact RQ.fin rfl rfl rfl)
end Go.Proofs.YtmhejcnaanocpaaGreat.A
