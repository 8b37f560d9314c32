/- Contracts: pen.On, pen.Refuse, chardata.Put. -/
import Derived.Test.YtmhejcnaanocpaaGreatXAskGrpAT
import Derived.Test.YtmhejcnaanocpaaGreatXAskGrpAK
namespace Go.Proofs.YtmhejcnaanocpaaGreat.A
set_option linter.unusedVariables false
set_option linter.unusedSimpArgs false
set_option maxRecDepth 100000
set_option maxHeartbeats 4000000
theorem AW.retW {C : Cx} {Q : Exit → St → Prop} {s s1 : St} (hle : Le C s s1) {e1 : List (Nat × AV)} {h1 : List Blk} (he : s1 = ⟨e1, h1⟩) (h : AW C .ret Q ⟨e1, h1⟩) : AW C .ret Q s := by
  subst he
  exact ybl hle h
def penB (p : PS) : List Blk := [⟨112, 3, [[.imm (.sl (p.F.map Node.iv)), .os 1 p.L.length, iav p.why]]⟩, ⟨58, 36, p.L.map rowC⟩]
def pen0 (f : List Node) : PS := ⟨f, [], 0⟩
theorem on_c (f : List Node) : GenC Tryz.prog 42 [⟨112, 3, []⟩] [fav f] (.ptr 0 1 0 0) [⟨112, 3, [[.imm (.sl (f.map Node.iv)), .os 2 0, iav 0]]⟩, ⟨24, 1, [[.imm (.sl (f.map Node.iv))]]⟩, ⟨58, 36, []⟩] := by
  refine yaj tabs Tryz.func42 6 [.tmp 2] rfl rfl rfl rfl rfl ?_; intro w0 X γ κ
  (repeat' (first | ((with_reducible show AL _ _ _ _ _); first | refine yad rfl (OpOK.boxAt 0 (t := 112) rfl rfl rfl rfl rfl rfl) rfl ?_ | (refine AL.step tabs rfl ?_; try dsimp only [len, List.nil_append, List.cons_append]) | refine ym ?_) | refine AW.retW (h1 := [⟨112, 3, [[.imm (.sl (f.map Node.iv)), .os 2 0, iav 0]]⟩, ⟨24, 1, [[.imm (.sl (f.map Node.iv))]]⟩, ⟨58, 36, []⟩]) (ybt 0 1 58 36 (ty := 112) (sz := 3) (r := [.imm (.sl (f.map Node.iv)), .nils, iav 0]) rfl rfl rfl) rfl ?_ | refine yn ?_ | refine yc ?_ | refine ya ?_ | refine yf ?_ | refine yo ?_ | refine yd ?_))
  exact yam 3 rfl rfl rfl rfl rfl (by simp [cxG])
def refP (p : PS) (w : Int) : PS := ⟨p.F, p.L, if p.why = 0 then w else p.why⟩
theorem qll (p : PS) (w : Int) : GenC Tryz.prog 85 (penB p) [.ptr 0 1 0 0, iav w] (bav false) (penB (refP p w)) := by
  unfold penB refP
  refine yaj tabs Tryz.func85 14 [.tmp 4] rfl rfl rfl rfl rfl ?_; intro w0 X γ κ
  (repeat' (first | ((with_reducible show AL _ _ _ _ _); first | (refine AL.step tabs rfl ?_; try dsimp only [len, List.nil_append, List.cons_append]) | refine ym ?_) | ((with_reducible show DQ _ _ _ _ _ _); first | refine DQ.stepc (LS.store (i := ti28) (v := iav w) (ty := 112) (sz := 3) (rows := [[.imm (.sl (p.F.map Node.iv)), .os 1 p.L.length, iav p.why]]) (r := [.imm (.sl (p.F.map Node.iv)), .os 1 p.L.length, iav p.why]) tabs rfl rfl rfl rfl rfl rfl rfl rfl rfl rfl (Nat.le_of_ble_eq_true rfl) rfl) rfl rfl rfl rfl rfl ?_ | refine DQ.stepc (LS.val tabs rfl rfl rfl) rfl rfl rfl rfl rfl ?_ | refine DQ.stepc (yab rfl rfl) rfl rfl rfl rfl rfl ?_ | refine DQ.nilM (by kernel_rfl) ?_) | refine yn ?_ | refine yc ?_ | refine ya ?_ | refine yf ?_ | refine yh rfl ?_ | refine yg rfl ?_ | (refine yk rfl (fun hc => ?_) (fun hc => ?_) <;> (try simp only [hsx] at hc) <;> (try first | omega | contradiction | (simp [qa] at hc; done))) | refine yo ?_ | refine yd ?_ | refine yx mixed (by kernel_rfl) ?_))
  · rw [if_pos hc]
    exact yam 2 rfl rfl rfl rfl (by simp only [qax]; exact ⟨⟨rfl, rfl, rfl⟩, qe _ _⟩) (by simp [cxG])
  · rw [if_neg hc]
    exact yam 2 rfl rfl rfl rfl (by simp only [qax]; exact ⟨⟨rfl, rfl, rfl⟩, qe _ _⟩) (by simp [cxG])
noncomputable def putC (f : List Node) (h off cnt : Int) (v : List Int) : Change := { c0 with kind := 5, node := h, offset := off, count := ((nodeAt f h).data.length : Int) + v.length - (replP (nodeAt f h).data off cnt v).1.length, data := v }
inductive PutR (h off cnt : Int) (v : List Int) : PS → PS → Bool → Prop
  | no (p : PS) (e : (replP (nodeAt p.F h).data off cnt v).2 ≠ 0) : PutR h off cnt v p (refP p (replP (nodeAt p.F h).data off cnt v).2) false
  | yes (p q : PS) (b : Bool) (e : (replP (nodeAt p.F h).data off cnt v).2 = 0) (H : DoR p (putC p.F h off cnt v) q b) : PutR h off cnt v p q b
def rawDa (node off cnt : Int) (v : List Int) : AV := .agg [kav 5, iav node, iav 0, iav 0, iav 0, iav 0, iav off, iav cnt, .imm (.sl (v.map u16)), sav es, sav es, sav es, sav es, sav es, bav false, bav false, kav 0, sav es, sav es, sav es, sav es, sav es, .nils, .nils, iav 0, .nils, iav 0, iav 0, iav 0, kav 0, bav false, bav false, .nils, .nils, iav 0, iav 0]
theorem qjp (p q : PS) (h off cnt : Int) (v : List Int) (b : Bool) (hf : Fit p.F) (hL : p.L.length ≤ 1000000) (h0 : 0 ≤ off) (h1 : off < 4294967296) (h2 : 0 ≤ cnt) (h3 : cnt < 4294967296) (hv : v.length ≤ 1000000000) (H : PutR h off cnt v p q b) :
    GenC Tryz.prog 47 (penB p) [.ptr 0 1 0 0, iav h, u32 off, u32 cnt, .imm (.sl (v.map u16))] (bav b) (penB q) := by
  have hl := hf.len
  have c1 := qz p.F h hl
  have hdl := (hf.at h).data
  have c2 := qos (nodeAt p.F h).data off cnt v h0 h1 h2 h3 hdl hv
  obtain ⟨n, hn⟩ : ∃ n, n = nodeAt p.F h := ⟨_, rfl⟩
  obtain ⟨r, hr⟩ : ∃ r, r = replP (nodeAt p.F h).data off cnt v := ⟨_, rfl⟩
  rw [← hr] at c2
  have hrl : r.1.length ≤ 2000000000 := by
    rw [hr]; unfold replP replL; split
    · simp
    · split
      · simp
      · simp only [List.length_append, List.length_take, List.length_drop]; omega
  have hmr : (r.1.map u16).length = r.1.length := List.length_map _
  have hmv : (v.map u16).length = v.length := List.length_map _
  have hmn : (n.data.map u16).length = n.data.length := List.length_map _
  rw [← hn] at c1 c2 hdl hr
  cases H with
  | no e =>
    rw [← hn, ← hr] at e ⊢
    have c3 := qll p r.2
    unfold penB at c3 ⊢
    refine yaj tabs Tryz.func47 51 [.tmp 10] rfl rfl rfl rfl rfl ?_; intro w0 X γ κ
    (repeat' (first | ((with_reducible show AL _ _ _ _ _); first | (refine AL.step tabs rfl ?_; try dsimp only [len, List.nil_append, List.cons_append]) | refine AL.op rfl (yb rfl rfl rfl rfl c1 rfl) ?_ | refine AL.op rfl (yb rfl rfl rfl rfl c2 rfl) ?_ | refine yac [0, 1] 2 rfl rfl rfl rfl rfl (caps := []) rfl c3 rfl (by simp only [List.map_cons, List.map_nil, renC]; rfl) rfl rfl (by simp only [qax]; exact ⟨⟨rfl, rfl, rfl⟩, qe _ _⟩) rfl (by simp only [qax]; exact ⟨⟨rfl, rfl, rfl⟩, qe _ _⟩) rfl (hpA := [⟨112, 3, [[.imm (.sl ((refP p r.2).F.map Node.iv)), .os 1 (refP p r.2).L.length, iav (refP p r.2).why]]⟩, ⟨58, 36, (refP p r.2).L.map rowC⟩]) (by simp only [List.map_cons, List.map_nil, renC]; rfl) (r' := bav false) rfl rfl ?_; try dsimp only [setAll, List.drop_succ_cons, List.drop_zero, List.drop_nil, List.set_cons_succ, List.set_cons_zero, List.cons_append, List.nil_append, List.append_nil, len, Nat.reduceAdd] | refine ym ?_ | (refine AL.op rfl (yi rfl rfl rfl rfl rfl (by omega) (by omega)) ?_)) | refine yn ?_ | refine yc ?_ | refine ya ?_ | refine yf ?_ | refine yh rfl ?_ | refine yg rfl ?_ | (refine yk rfl (fun hc => ?_) (fun hc => ?_) <;> (try simp only [hsx] at hc) <;> (try first | omega | contradiction | (simp [qa] at hc; done))) | refine yo ?_ | refine yd ?_))
    all_goals first
      | (exfalso; exact e hc)
      | exact yam 2 rfl rfl rfl rfl (by simp only [qax]; exact ⟨⟨rfl, rfl, rfl⟩, qe _ _⟩) (by simp [cxG])
  | yes _ _ e H =>
    rw [← hn, ← hr] at e
    have hdo : GenC Tryz.prog 45 _ [.ptr 0 1 0 0, rawDa h off ((nodeAt p.F h).data.length + v.length - (replP (nodeAt p.F h).data off cnt v).1.length) v] _ _ := GenC.cv (do_c p q _ b hL H) rfl
    rw [← hn, ← hr, ← hmn, ← hmv, ← hmr] at hdo
    unfold penB
    refine yaj tabs Tryz.func47 51 [.tmp 10] rfl rfl rfl rfl rfl ?_; intro w0 X γ κ
    (repeat' (first | ((with_reducible show AL _ _ _ _ _); first | refine AL.op rfl (ybn tabs rfl rfl rfl rfl rfl rfl (by omega) (by omega)) ?_ | (refine AL.step tabs rfl ?_; try dsimp only [len, List.nil_append, List.cons_append]) | refine AL.op rfl (yb rfl rfl rfl rfl c1 rfl) ?_ | refine AL.op rfl (yb rfl rfl rfl rfl c2 rfl) ?_ | refine yac [0, 1] 2 rfl rfl rfl rfl rfl (caps := []) rfl hdo rfl (by simp only [List.map_cons, List.map_nil, renC]; rfl) rfl rfl (by simp only [qax]; exact ⟨⟨rfl, rfl, rfl⟩, qe _ _⟩) rfl (by simp only [qax]; exact ⟨⟨rfl, rfl, rfl⟩, qe _ _⟩) rfl (hpA := [⟨112, 3, [[.imm (.sl ((q).F.map Node.iv)), .os 1 (q).L.length, iav (q).why]]⟩, ⟨58, 36, (q).L.map rowC⟩]) (by simp only [List.map_cons, List.map_nil, renC]; rfl) (r' := bav b) rfl rfl ?_; try dsimp only [setAll, List.drop_succ_cons, List.drop_zero, List.drop_nil, List.set_cons_succ, List.set_cons_zero, List.cons_append, List.nil_append, List.append_nil, len, Nat.reduceAdd] | refine ym ?_ | (refine AL.op rfl (yi rfl rfl rfl rfl rfl (by omega) (by omega)) ?_)) | refine yn ?_ | refine yc ?_ | refine ya ?_ | refine yf ?_ | refine yh rfl ?_ | refine yg rfl ?_ | (refine yk rfl (fun hc => ?_) (fun hc => ?_) <;> (try simp only [hsx] at hc) <;> (try first | omega | contradiction | (simp [qa] at hc; done))) | refine yo ?_ | refine yd ?_))
    all_goals first
      | (exfalso; exact hc e)
      | exact yam 2 rfl rfl rfl rfl (by simp only [qax]; exact ⟨⟨rfl, rfl, rfl⟩, qe _ _⟩) (by simp [cxG])
theorem qm2 (a b n : Int) : GenC Tryz.prog 62 [⟨25, 1, [[u32 a]]⟩, ⟨25, 1, [[u32 b]]⟩] [u32 n, .ptr 0 1 0 0, .ptr 1 1 0 0] (.tup [u32 a, u32 b]) [⟨25, 1, [[u32 a]]⟩, ⟨25, 1, [[u32 b]]⟩] := by
  refine yaj tabs Tryz.func62 8 [.tmp 4, .tmp 5] rfl rfl rfl rfl rfl ?_; intro w0 X γ κ
  (repeat' (first | ((with_reducible show AL _ _ _ _ _); first | (refine AL.step tabs rfl ?_; try dsimp only [len, List.nil_append, List.cons_append]) | refine ym ?_) | ((with_reducible show DQ _ _ _ _ _ _); first | refine DQ.stepc (LS.val tabs rfl rfl rfl) rfl rfl rfl rfl rfl ?_ | refine DQ.stepc (yab rfl rfl) rfl rfl rfl rfl rfl ?_ | refine DQ.nilM (by kernel_rfl) ?_) | refine yn ?_ | refine yc ?_ | refine ya ?_ | refine yf ?_ | refine yo ?_ | refine yd ?_ | refine yx mixed (by kernel_rfl) ?_))
  exact yam 2 rfl rfl rfl rfl rfl (by simp [cxG])
theorem qjq (f : List Node) (h : Int) (v : List Int) (a b : Int) (hf : Fit f) (he : cfP f h false ≠ 0) : GenC Tryz.prog 61 [⟨25, 1, [[u32 a]]⟩, ⟨25, 1, [[u32 b]]⟩] [fav f, iav h, .imm (.sl (v.map u16)), .fn 62 [.ptr 0 1 0 0, .ptr 1 1 0 0]] (.tup [.agg [.nils], .nils, iav (cfP f h false)]) [⟨25, 1, [[u32 a]]⟩, ⟨25, 1, [[u32 b]]⟩] := by
  have c1 := qa1 f h false hf
  obtain ⟨w, hw⟩ : ∃ w, w = cfP f h false := ⟨_, rfl⟩
  rw [← hw] at c1 he ⊢
  refine yaj tabs Tryz.func61 46 [.cell 8 24, .tmp 9, .tmp 10] rfl rfl rfl rfl rfl ?_; intro w0 X γ κ
  (repeat' (first | ((with_reducible show AL _ _ _ _ _); first | (refine AL.step tabs rfl ?_; try dsimp only [len, List.nil_append, List.cons_append]) | refine AL.op rfl (yb rfl rfl rfl rfl c1 rfl) ?_ | refine ym ?_) | ((with_reducible show DQ _ _ _ _ _ _); first | refine DQ.stepc (LS.store (i := ti24) (v := .agg [.nils]) (ty := 24) (sz := 1) (rows := [ti24.zero]) (r := ti24.zero) tabs rfl rfl rfl rfl rfl rfl rfl rfl rfl rfl (Nat.le_of_ble_eq_true rfl) rfl) rfl rfl rfl rfl rfl ?_ | refine DQ.stepc (LS.val tabs rfl rfl rfl) rfl rfl rfl rfl rfl ?_ | refine DQ.stepc (yab rfl rfl) rfl rfl rfl rfl rfl ?_ | refine DQ.nilM (by kernel_rfl) ?_) | refine yn ?_ | refine yc ?_ | refine ya ?_ | refine yf ?_ | refine yh rfl ?_ | refine yg rfl ?_ | (refine yk rfl (fun hc => ?_) (fun hc => ?_) <;> (try simp only [hsx] at hc) <;> (try first | omega | contradiction | (simp [qa] at hc; done))) | refine yo ?_ | refine yd ?_ | refine yx mixed (by kernel_rfl) ?_))
  all_goals first
    | (exfalso; exact he hc)
    | exact yam 2 rfl rfl rfl rfl rfl (by simp [cxG])
theorem qh8 (f : List Node) (q : PS) (bb : Bool) (h : Int) (v : List Int) (a b : Int) (hf : Fit f) (a0 : 0 ≤ a) (a1 : a < 4294967296) (b0 : 0 ≤ b) (b1 : b < 4294967296) (hv : v.length ≤ 1000000000) (he : cfP f h false = 0) (H : PutR h a b v (pen0 f) q bb) (hw : q.why ≠ 0) : GenC Tryz.prog 61 [⟨25, 1, [[u32 a]]⟩, ⟨25, 1, [[u32 b]]⟩] [fav f, iav h, .imm (.sl (v.map u16)), .fn 62 [.ptr 0 1 0 0, .ptr 1 1 0 0]] (.tup [.agg [.nils], .nils, iav q.why]) [⟨25, 1, [[u32 a]]⟩, ⟨25, 1, [[u32 b]]⟩] := by
  have c1 := qa1 f h false hf
  rw [he] at c1
  have hl := hf.len
  have hdl := (hf.at h).data
  have c2 := qz f h hl
  have hmn : ((nodeAt f h).data.map u16).length = (nodeAt f h).data.length := List.length_map _
  have c3 := qjp (pen0 f) q h a b v bb hf (by simp [pen0]) a0 a1 b0 b1 hv H
  have c4 := qmz q hw
  obtain ⟨n, hn⟩ : ∃ n, n = nodeAt f h := ⟨_, rfl⟩
  rw [← hn] at c2 hdl hmn
  unfold penB pen0 at c3
  refine yaj tabs Tryz.func61 46 [.cell 8 24, .tmp 9, .tmp 10] rfl rfl rfl rfl rfl ?_; intro w0 X γ κ
  refine AW.reserve 112 3 rfl ?_
  (repeat' (first | ((with_reducible show AL _ _ _ _ _); first | refine AL.op rfl (ybz tabs rfl rfl rfl rfl rfl rfl (by omega) (by omega)) ?_ | (refine AL.step tabs rfl ?_; try dsimp only [len, List.nil_append, List.cons_append]) | refine AL.op rfl (yb rfl rfl rfl rfl c1 rfl) ?_ | refine yac [2] 5 rfl rfl rfl rfl rfl (caps := []) rfl (on_c f) rfl rfl rfl rfl rfl rfl rfl rfl (hpA := [⟨112, 3, [[.imm (.sl (f.map Node.iv)), .os 6 0, iav 0]]⟩, ⟨24, 1, [[.imm (.sl (f.map Node.iv))]]⟩, ⟨58, 36, []⟩]) rfl (r' := .ptr 2 1 0 0) rfl rfl ?_; try dsimp only [setAll, List.drop_succ_cons, List.drop_zero, List.drop_nil, List.set_cons_succ, List.set_cons_zero, List.cons_append, List.nil_append, List.append_nil, len] | refine AL.op rfl (yb rfl rfl rfl rfl c2 rfl) ?_ | refine yac [0, 1] 7 rfl rfl rfl rfl (caps := [.ptr 0 1 0 0, .ptr 1 1 0 0]) rfl rfl (qm2 a b _) rfl rfl rfl rfl rfl rfl rfl rfl (hpA := [⟨25, 1, [[u32 a]]⟩, ⟨25, 1, [[u32 b]]⟩]) rfl (r' := .tup [u32 a, u32 b]) rfl rfl ?_ | refine yac [2, 6] 7 rfl rfl rfl rfl rfl (caps := []) rfl c3 rfl (by simp only [List.map_cons, List.map_nil, renC]; rfl) rfl rfl (by simp only [qax]; exact ⟨⟨rfl, rfl, rfl⟩, qe _ _⟩) rfl (by simp only [qax]; exact ⟨⟨rfl, rfl, rfl⟩, qe _ _⟩) rfl (hpA := [⟨112, 3, [[.imm (.sl ((q).F.map Node.iv)), .os 6 (q).L.length, iav (q).why]]⟩, ⟨58, 36, (q).L.map rowC⟩]) (by simp only [List.map_cons, List.map_nil, renC]; rfl) (r' := bav bb) rfl rfl ?_; try dsimp only [setAll, List.drop_succ_cons, List.drop_zero, List.drop_nil, List.set_cons_succ, List.set_cons_zero, List.cons_append, List.nil_append, List.append_nil, len, Nat.reduceAdd] | refine yac [2, 6] 7 rfl rfl rfl rfl rfl (caps := []) rfl c4 rfl (by simp only [List.map_cons, List.map_nil, renC]; rfl) rfl rfl (by simp only [qax]; exact ⟨⟨rfl, rfl, rfl⟩, qe _ _⟩) rfl (by simp only [qax]; exact ⟨⟨rfl, rfl, rfl⟩, qe _ _⟩) rfl (hpA := [⟨112, 3, [[.imm (.sl ((q).F.map Node.iv)), .os 6 (q).L.length, iav (q).why]]⟩, ⟨58, 36, (q).L.map rowC⟩]) (by simp only [List.map_cons, List.map_nil, renC]; rfl) (r' := .tup [.agg [.nils], .nils, iav q.why]) rfl rfl ?_; try dsimp only [setAll, List.drop_succ_cons, List.drop_zero, List.drop_nil, List.set_cons_succ, List.set_cons_zero, List.cons_append, List.nil_append, List.append_nil, len, Nat.reduceAdd] | refine ym ?_) | ((with_reducible show DQ _ _ _ _ _ _); first | refine DQ.stepc (LS.store (i := ti24) (v := .agg [.nils]) (ty := 24) (sz := 1) (rows := [ti24.zero]) (r := ti24.zero) tabs rfl rfl rfl rfl rfl rfl rfl rfl rfl rfl (Nat.le_of_ble_eq_true rfl) rfl) rfl rfl rfl rfl rfl ?_ | refine DQ.stepc (LS.val tabs rfl rfl rfl) rfl rfl rfl rfl rfl ?_ | refine DQ.stepc (yab rfl rfl) rfl rfl rfl rfl rfl ?_ | refine DQ.nilM (by kernel_rfl) ?_) | refine yn ?_ | refine yc ?_ | refine ya ?_ | refine yf ?_ | refine yh rfl ?_ | refine yg rfl ?_ | (refine yk rfl (fun hc => ?_) (fun hc => ?_) <;> (try simp only [hsx] at hc) <;> (try first | omega | contradiction | (simp [qa] at hc; done))) | refine yo ?_ | refine yd ?_ | refine yx mixed (by kernel_rfl) ?_))
  exact yam 2 rfl rfl rfl rfl rfl (by simp [cxG])
theorem qnt (f : List Node) (q : PS) (bb : Bool) (h : Int) (v : List Int) (a b : Int) (hf : Fit f) (a0 : 0 ≤ a) (a1 : a < 4294967296) (b0 : 0 ≤ b) (b1 : b < 4294967296) (hv : v.length ≤ 1000000000) (he : cfP f h false = 0) (H : PutR h a b v (pen0 f) q bb) (hw : q.why = 0) (hL : q.L.length ≤ 1000000) (hL0 : q.L ≠ []) (hfc : ∀ i : Int, 0 ≤ i → i < q.L.length → FitC (atI q.L i)) : GenC Tryz.prog 61 [⟨25, 1, [[u32 a]]⟩, ⟨25, 1, [[u32 b]]⟩] [fav f, iav h, .imm (.sl (v.map u16)), .fn 62 [.ptr 0 1 0 0, .ptr 1 1 0 0]] (.tup [fav q.F, .os 8 q.L.length, iav 0]) [⟨25, 1, [[u32 a]]⟩, ⟨25, 1, [[u32 b]]⟩, ⟨112, 3, [[.imm (.sl ((q).F.map Node.iv)), .os 6 (q).L.length, iav (q).why]]⟩, ⟨24, 1, [[.imm (.sl (f.map Node.iv))]]⟩, ⟨24, 1, [[.imm (.sl ((q).F.map Node.iv))]]⟩, ⟨24, 1, [[.imm (.sl (f.map Node.iv))]]⟩, ⟨58, 36, (q).L.map rowC⟩, ⟨24, 1, [[.imm (.sl ((q).F.map Node.iv))]]⟩, ⟨58, 36, (q).L.map rowC⟩] := by
  have c1 := qa1 f h false hf
  rw [he] at c1
  have hl := hf.len
  have hdl := (hf.at h).data
  have c2 := qz f h hl
  have hmn : ((nodeAt f h).data.map u16).length = (nodeAt f h).data.length := List.length_map _
  have c3 := qjp (pen0 f) q h a b v bb hf (by simp [pen0]) a0 a1 b0 b1 hv H
  have c4 := qor q hw hL hL0 hfc
  obtain ⟨n, hn⟩ : ∃ n, n = nodeAt f h := ⟨_, rfl⟩
  rw [← hn] at c2 hdl hmn
  unfold penB pen0 at c3
  refine yaj tabs Tryz.func61 46 [.cell 8 24, .tmp 9, .tmp 10] rfl rfl rfl rfl rfl ?_; intro w0 X γ κ
  refine AW.reserve 112 3 rfl ?_
  (repeat' (first | ((with_reducible show AL _ _ _ _ _); first | refine AL.op rfl (ybz tabs rfl rfl rfl rfl rfl rfl (by omega) (by omega)) ?_ | (refine AL.step tabs rfl ?_; try dsimp only [len, List.nil_append, List.cons_append]) | refine AL.op rfl (yb rfl rfl rfl rfl c1 rfl) ?_ | refine yac [2] 5 rfl rfl rfl rfl rfl (caps := []) rfl (on_c f) rfl rfl rfl rfl rfl rfl rfl rfl (hpA := [⟨112, 3, [[.imm (.sl (f.map Node.iv)), .os 6 0, iav 0]]⟩, ⟨24, 1, [[.imm (.sl (f.map Node.iv))]]⟩, ⟨58, 36, []⟩]) rfl (r' := .ptr 2 1 0 0) rfl rfl ?_; try dsimp only [setAll, List.drop_succ_cons, List.drop_zero, List.drop_nil, List.set_cons_succ, List.set_cons_zero, List.cons_append, List.nil_append, List.append_nil, len] | refine AL.op rfl (yb rfl rfl rfl rfl c2 rfl) ?_ | refine yac [0, 1] 7 rfl rfl rfl rfl (caps := [.ptr 0 1 0 0, .ptr 1 1 0 0]) rfl rfl (qm2 a b _) rfl rfl rfl rfl rfl rfl rfl rfl (hpA := [⟨25, 1, [[u32 a]]⟩, ⟨25, 1, [[u32 b]]⟩]) rfl (r' := .tup [u32 a, u32 b]) rfl rfl ?_ | refine yac [2, 6] 7 rfl rfl rfl rfl rfl (caps := []) rfl c3 rfl (by simp only [List.map_cons, List.map_nil, renC]; rfl) rfl rfl (by simp only [qax]; exact ⟨⟨rfl, rfl, rfl⟩, qe _ _⟩) rfl (by simp only [qax]; exact ⟨⟨rfl, rfl, rfl⟩, qe _ _⟩) rfl (hpA := [⟨112, 3, [[.imm (.sl ((q).F.map Node.iv)), .os 6 (q).L.length, iav (q).why]]⟩, ⟨58, 36, (q).L.map rowC⟩]) (by simp only [List.map_cons, List.map_nil, renC]; rfl) (r' := bav bb) rfl rfl ?_; try dsimp only [setAll, List.drop_succ_cons, List.drop_zero, List.drop_nil, List.set_cons_succ, List.set_cons_zero, List.cons_append, List.nil_append, List.append_nil, len, Nat.reduceAdd] | refine yac [2, 6] 7 rfl rfl rfl rfl rfl (caps := []) rfl c4 rfl (by simp only [List.map_cons, List.map_nil, renC]; rfl) rfl rfl (by simp only [qax]; exact ⟨⟨rfl, rfl, rfl⟩, qe _ _⟩) rfl (by simp only [qax]; exact ⟨⟨rfl, rfl, rfl⟩, qe _ _, rfl, qe _ _⟩) rfl (hpA := [⟨112, 3, [[.imm (.sl ((q).F.map Node.iv)), .os 6 (q).L.length, iav (q).why]]⟩, ⟨58, 36, (q).L.map rowC⟩, ⟨24, 1, [[.imm (.sl ((q).F.map Node.iv))]]⟩, ⟨58, 36, (q).L.map rowC⟩]) (by simp only [List.map_cons, List.map_nil, renC]; rfl) (r' := .tup [fav q.F, .os 8 q.L.length, iav 0]) rfl rfl ?_; try dsimp only [setAll, List.drop_succ_cons, List.drop_zero, List.drop_nil, List.set_cons_succ, List.set_cons_zero, List.cons_append, List.nil_append, List.append_nil, len, Nat.reduceAdd] | refine ym ?_) | ((with_reducible show DQ _ _ _ _ _ _); first | refine DQ.stepc (LS.store (i := ti24) (v := fav q.F) (ty := 24) (sz := 1) (rows := [ti24.zero]) (r := ti24.zero) tabs rfl rfl rfl rfl rfl rfl rfl rfl rfl rfl (Nat.le_of_ble_eq_true rfl) rfl) rfl rfl rfl rfl rfl ?_ | refine DQ.stepc (LS.val tabs rfl rfl rfl) rfl rfl rfl rfl rfl ?_ | refine DQ.stepc (yab rfl rfl) rfl rfl rfl rfl rfl ?_ | refine DQ.nilM (by kernel_rfl) ?_) | refine yn ?_ | refine yc ?_ | refine ya ?_ | refine yf ?_ | refine yh rfl ?_ | refine yg rfl ?_ | (refine yk rfl (fun hc => ?_) (fun hc => ?_) <;> (try simp only [hsx] at hc) <;> (try first | omega | contradiction | (simp [qa] at hc; done))) | refine yo ?_ | refine yd ?_ | refine yx mixed (by kernel_rfl) ?_))
  exact yam 9 rfl rfl rfl rfl (by simp only [qax]; exact ⟨rfl, rfl, ⟨rfl, rfl, rfl⟩, rfl, rfl, rfl, qe _ _, rfl, qe _ _⟩) (by simp [cxG])
noncomputable def ansP (e : Int) (q : PS) : AV := if e ≠ 0 then .tup [fav [], .imm (.sl []), iav e] else if q.why ≠ 0 then .tup [fav [], .imm (.sl []), iav q.why] else .tup [fav q.F, .imm (.sl (q.L.map Change.iv)), iav 0]
theorem PutR.len {h a b : Int} {v : List Int} {p q : PS} {bb : Bool} (H : PutR h a b v p q bb) (h0 : p.why = 0) : q.why = 0 → q.L = p.L ++ [putC p.F h a b v] := by
  intro hq
  cases H with
  | no e => simp [refP, h0] at hq; exact absurd hq e
  | yes _ _ e H =>
    cases H with
    | stop h => exact absurd h0 h
    | bad g w _ hw _ => exact absurd hq hw
    | ok g _ _ => rfl
theorem qlm (f : List Node) (h a b : Int) (v : List Int) (hv : v.length ≤ 1000000000) : FitC (putC f h a b v) := ⟨hv, fit0, by simp [putC, c0], by simp [putC, c0]⟩
theorem qjr (f : List Node) (q : PS) (bb : Bool) (h : Int) (v : List Int) (a b : Int) (hf : Fit f) (a0 : 0 ≤ a) (a1 : a < 4294967296) (b0 : 0 ≤ b) (b1 : b < 4294967296) (hv : v.length ≤ 1000000000) (H : cfP f h false = 0 → PutR h a b v (pen0 f) q bb) : PureC Tryz.prog 19 [fav f, iav h, u32 a, u32 b, .imm (.sl (v.map u16))] (ansP (cfP f h false) q) := by
  unfold ansP
  by_cases he : cfP f h false = 0
  · rw [if_neg (by omega)]
    have H := H he
    by_cases hw : q.why = 0
    · rw [if_neg (by omega)]
      have hLe := H.len rfl hw
      rw [show (pen0 f).L = [] from rfl, List.nil_append] at hLe
      have c1 := qnt f q bb h v a b hf a0 a1 b0 b1 hv he H hw (by rw [hLe]; simp) (by rw [hLe]; simp) (by
        rw [hLe]
        intro i i0 i1
        have : i = 0 := by simp at i1; omega
        subst this
        exact qlm _ _ _ _ _ hv)
      refine yq tabs Tryz.func19 21 [.cell 10 24, .tmp 11, .tmp 12] rfl rfl rfl rfl rfl ?_; intro w0 X
      (repeat' (first | ((with_reducible show AL _ _ _ _ _); first | (refine AL.step tabs rfl ?_; try dsimp only [len, List.nil_append, List.cons_append]) | refine yac [1, 2] 4 rfl rfl rfl rfl rfl (caps := []) rfl c1 rfl rfl rfl rfl rfl rfl (by simp only [qax]; exact ⟨rfl, rfl, ⟨rfl, rfl, rfl⟩, rfl, rfl, rfl, qe _ _, rfl, qe _ _⟩) rfl (hpA := [⟨25, 1, [[u32 a]]⟩, ⟨25, 1, [[u32 b]]⟩, ⟨112, 3, [[.imm (.sl ((q).F.map Node.iv)), .os 8 (q).L.length, iav (q).why]]⟩, ⟨24, 1, [[.imm (.sl (f.map Node.iv))]]⟩, ⟨24, 1, [[.imm (.sl ((q).F.map Node.iv))]]⟩, ⟨24, 1, [[.imm (.sl (f.map Node.iv))]]⟩, ⟨58, 36, (q).L.map rowC⟩, ⟨24, 1, [[.imm (.sl ((q).F.map Node.iv))]]⟩, ⟨58, 36, (q).L.map rowC⟩]) (by simp only [List.map_cons, List.map_nil, renC]; rfl) (r' := .tup [fav q.F, .os 10 q.L.length, iav 0]) rfl rfl ?_; try dsimp only [setAll, List.drop_succ_cons, List.drop_zero, List.drop_nil, List.set_cons_succ, List.set_cons_zero, List.cons_append, List.nil_append, List.append_nil, len, Nat.reduceAdd] | refine ym ?_) | ((with_reducible show DQ _ _ _ _ _ _); first | refine DQ.stepc (LS.store (i := ti24) (v := fav q.F) (ty := 24) (sz := 1) (rows := [ti24.zero]) (r := ti24.zero) tabs rfl rfl rfl rfl rfl rfl rfl rfl rfl rfl (Nat.le_of_ble_eq_true rfl) rfl) rfl rfl rfl rfl rfl ?_ | refine DQ.stepc (LS.val tabs rfl rfl rfl) rfl rfl rfl rfl rfl ?_ | refine DQ.stepc (yab rfl rfl) rfl rfl rfl rfl rfl ?_ | refine DQ.nilM (by kernel_rfl) ?_) | refine yn ?_ | refine yc ?_ | refine ya ?_ | refine yf ?_ | refine yo ?_ | refine yd ?_ | refine yx mixed (by kernel_rfl) ?_))
      exact yao rfl (ya0 (.cons (Fz.im rfl) (.cons (Fz.os (b := ⟨58, 36, q.L.map rowC⟩) (rows := q.L.map Change.iv) rfl (List.length_map _).symm (by rw [List.map_map]; rfl)) (.cons (Fz.im rfl) .nil))))
    · rw [if_pos hw]
      have c1 := qh8 f q bb h v a b hf a0 a1 b0 b1 hv he H hw
      refine yq tabs Tryz.func19 21 [.cell 10 24, .tmp 11, .tmp 12] rfl rfl rfl rfl rfl ?_; intro w0 X
      (repeat' (first | ((with_reducible show AL _ _ _ _ _); first | (refine AL.step tabs rfl ?_; try dsimp only [len, List.nil_append, List.cons_append]) | refine yac [1, 2] 4 rfl rfl rfl rfl rfl (caps := []) rfl c1 rfl rfl rfl rfl rfl rfl rfl rfl (hpA := [⟨25, 1, [[u32 a]]⟩, ⟨25, 1, [[u32 b]]⟩]) rfl (r' := .tup [.agg [.nils], .nils, iav q.why]) rfl rfl ?_; try dsimp only [setAll, List.drop_succ_cons, List.drop_zero, List.drop_nil, List.set_cons_succ, List.set_cons_zero, List.cons_append, List.nil_append, List.append_nil, len, Nat.reduceAdd] | refine ym ?_) | ((with_reducible show DQ _ _ _ _ _ _); first | refine DQ.stepc (LS.store (i := ti24) (v := .agg [.nils]) (ty := 24) (sz := 1) (rows := [ti24.zero]) (r := ti24.zero) tabs rfl rfl rfl rfl rfl rfl rfl rfl rfl rfl (Nat.le_of_ble_eq_true rfl) rfl) rfl rfl rfl rfl rfl ?_ | refine DQ.stepc (LS.val tabs rfl rfl rfl) rfl rfl rfl rfl rfl ?_ | refine DQ.stepc (yab rfl rfl) rfl rfl rfl rfl rfl ?_ | refine DQ.nilM (by kernel_rfl) ?_) | refine yn ?_ | refine yc ?_ | refine ya ?_ | refine yf ?_ | refine yo ?_ | refine yd ?_ | refine yx mixed (by kernel_rfl) ?_))
      exact RQ.fin rfl rfl rfl
  · rw [if_pos he]
    have c1 := qjq f h v a b hf he
    refine yq tabs Tryz.func19 21 [.cell 10 24, .tmp 11, .tmp 12] rfl rfl rfl rfl rfl ?_; intro w0 X
    (repeat' (first | ((with_reducible show AL _ _ _ _ _); first | (refine AL.step tabs rfl ?_; try dsimp only [len, List.nil_append, List.cons_append]) | refine yac [1, 2] 4 rfl rfl rfl rfl rfl (caps := []) rfl c1 rfl rfl rfl rfl rfl rfl rfl rfl (hpA := [⟨25, 1, [[u32 a]]⟩, ⟨25, 1, [[u32 b]]⟩]) rfl (r' := .tup [.agg [.nils], .nils, iav (cfP f h false)]) rfl rfl ?_; try dsimp only [setAll, List.drop_succ_cons, List.drop_zero, List.drop_nil, List.set_cons_succ, List.set_cons_zero, List.cons_append, List.nil_append, List.append_nil, len, Nat.reduceAdd] | refine ym ?_) | ((with_reducible show DQ _ _ _ _ _ _); first | refine DQ.stepc (LS.store (i := ti24) (v := .agg [.nils]) (ty := 24) (sz := 1) (rows := [ti24.zero]) (r := ti24.zero) tabs rfl rfl rfl rfl rfl rfl rfl rfl rfl rfl (Nat.le_of_ble_eq_true rfl) rfl) rfl rfl rfl rfl rfl ?_ | refine DQ.stepc (LS.val tabs rfl rfl rfl) rfl rfl rfl rfl rfl ?_ | refine DQ.stepc (yab rfl rfl) rfl rfl rfl rfl rfl ?_ | refine DQ.nilM (by kernel_rfl) ?_) | refine yn ?_ | refine yc ?_ | refine ya ?_ | refine yf ?_ | refine yo ?_ | refine yd ?_ | refine yx mixed (by kernel_rfl) ?_))
    exact RQ.fin rfl rfl rfl
def restL (f : List Node) (h off : Int) : List Int := subP (nodeAt f h).data off 4294967295
def restN (f : List Node) (h off : Int) : Node := { n0 with kind := 3, doc := (nodeAt f h).doc, data := restL f h off }
def treeCh (parent made prev next : Int) : Change := { c0 with kind := 10, parent := parent, added := [made], prev := prev, next := next }
def splitCh (node other off : Int) : Change := { c0 with kind := 8, node := node, other := other, offset := off }
def rawT (doc : Int) (d : List Int) : AV := .agg [kav 3, sav es, sav es, sav es, sav es, sav es, .imm (.sl (d.map u16)), .nils, iav 0, .nils, iav doc, iav 0, iav 0, kav 0, bav false, bav false]
def rawTr (parent made prev next : Int) : AV := .agg [kav 10, iav 0, iav parent, iav 0, iav 0, iav 0, iav 0, iav 0, .nils, sav es, sav es, sav es, sav es, sav es, bav false, bav false, kav 0, sav es, sav es, sav es, sav es, sav es, .nils, .nils, iav 0, .nils, iav 0, iav 0, iav 0, kav 0, bav false, bav false, .imm (.sl ([made].map i64)), .nils, iav prev, iav next]
def rawSp (node other off : Int) : AV := .agg [kav 8, iav node, iav 0, iav 0, iav other, iav 0, iav off, iav 0, .nils, sav es, sav es, sav es, sav es, sav es, bav false, bav false, kav 0, sav es, sav es, sav es, sav es, sav es, .nils, .nils, iav 0, .nils, iav 0, iav 0, iav 0, kav 0, bav false, bav false, .nils, .nils, iav 0, iav 0]
theorem qjs (f : List Node) (h : Int) : 0 ≤ placeP f h := by unfold placeP; omega
theorem qjt (f : List Node) (h : Int) (hf : Fit f) : placeP f h ≤ 1000000000 := by
  have := qjn (nodeAt f (nodeAt f h).parent).kids h
  have := (hf.at (nodeAt f h).parent).kids
  unfold placeP; omega
theorem qju (l : List Int) (a b : Int) : (subP l a b).length ≤ l.length := by unfold subP; simp only [List.length_drop, List.length_take]; omega
structure SplitS (f : List Node) (h off : Int) (p1 p2 p3 p4 q : PS) (b1 : Bool) : Prop where
  made : DoR (pen0 f) (mkCh (f.length + 1) (restN f h off)) p1 b1
  lone : b1 = false ∨ (nodeAt f h).parent = 0 → p4 = p1
  ins : b1 = true → (nodeAt f h).parent ≠ 0 → ∃ b, DoR p1 (inCh (f.length + 1) (nodeAt f h).parent (placeP f h + 1)) p2 b
  tree : b1 = true → (nodeAt f h).parent ≠ 0 → ∃ b, DoR p2 (treeCh (nodeAt f h).parent (f.length + 1) h (besideP f h 1)) p3 b
  spl : b1 = true → (nodeAt f h).parent ≠ 0 → ∃ b, DoR p3 (splitCh h (f.length + 1) off) p4 b
  put : ∃ b, PutR h off (restL f h off).length [] p4 q b
theorem qjv (f : List Node) (h off : Int) (hf : Fit f) (he : cfP f h true ≠ 0) : PureC Tryz.prog 12 [fav f, iav h, u32 off] (.tup [fav [], iav 0, .imm (.sl []), iav (cfP f h true)]) := by
  have c1 := qa1 f h true hf
  obtain ⟨w, hw⟩ : ∃ w, w = cfP f h true := ⟨_, rfl⟩
  rw [← hw] at c1 he ⊢
  refine yq tabs Tryz.func12 104 [.cell 6 24, .tmp 7, .tmp 8, .tmp 9] rfl rfl rfl rfl rfl ?_; intro w0 X
  (repeat' (first | ((with_reducible show AL _ _ _ _ _); first | (refine AL.step tabs rfl ?_; try dsimp only [len, List.nil_append, List.cons_append]) | refine AL.op rfl (yb rfl rfl rfl rfl c1 rfl) ?_ | refine ym ?_ | (refine yj rfl rfl rfl (fun hc => ?_) (fun hc => ?_) <;> (fail_if_success (exact absurd hc (by decide))) <;> (try simp only [hsx] at hc) <;> (try first | omega | contradiction | (simp [qa] at hc; done))) | (refine AL.op rfl (yi rfl rfl rfl rfl rfl (by omega) (by omega)) ?_)) | ((with_reducible show DQ _ _ _ _ _ _); first | refine DQ.stepc (LS.store (i := ti24) (v := .agg [.nils]) (ty := 24) (sz := 1) (rows := [ti24.zero]) (r := ti24.zero) tabs rfl rfl rfl rfl rfl rfl rfl rfl rfl rfl (Nat.le_of_ble_eq_true rfl) rfl) rfl rfl rfl rfl rfl ?_ | refine DQ.stepc (LS.val tabs rfl rfl rfl) rfl rfl rfl rfl rfl ?_ | refine DQ.stepc (yab rfl rfl) rfl rfl rfl rfl rfl ?_ | refine DQ.nilM (by kernel_rfl) ?_ | refine DQ.stepc (yaf rfl rfl rfl rfl rfl rfl (by omega) (by omega)) rfl rfl rfl rfl rfl ?_ | (refine DQ.gsplitE rfl rfl rfl (fun hc => ?_) (fun hc => ?_) <;> (fail_if_success (exact absurd hc (by decide))) <;> (try simp only [hsx] at hc) <;> (try first | omega | contradiction | (simp [qa] at hc; done)))) | refine yn ?_ | refine yc ?_ | refine ya ?_ | refine yf ?_ | refine yh rfl ?_ | refine yg rfl ?_ | (refine yk rfl (fun hc => ?_) (fun hc => ?_) <;> (try simp only [hsx] at hc) <;> (try first | omega | contradiction | (simp [qa] at hc; done))) | refine yo ?_ | refine yd ?_ | refine yx mixed (by kernel_rfl) ?_))
  all_goals first
    | (exfalso; exact he hc)
    | exact RQ.fin rfl rfl rfl
theorem qh9 (f : List Node) (h off : Int) (hf : Fit f) (he : cfP f h true = 0) (h0 : 0 ≤ off) (h1 : off < 4294967296) (ho : (nodeAt f h).data.length < off) : PureC Tryz.prog 12 [fav f, iav h, u32 off] (.tup [fav [], iav 0, .imm (.sl []), iav 14]) := by
  have c1 := qa1 f h true hf
  rw [he] at c1
  have c2 := qz f h hf.len
  have c3 := qns (nodeAt f h).data off 4294967295 h0 h1 (by omega) (by omega) (hf.at h).data
  rw [if_neg (by omega), if_neg (by omega)] at c3
  refine yq tabs Tryz.func12 104 [.cell 6 24, .tmp 7, .tmp 8, .tmp 9] rfl rfl rfl rfl rfl ?_; intro w0 X
  (repeat' (first | ((with_reducible show AL _ _ _ _ _); first | (refine AL.step tabs rfl ?_; try dsimp only [len, List.nil_append, List.cons_append]) | refine AL.op rfl (yb rfl rfl rfl rfl c1 rfl) ?_ | refine AL.op rfl (yb rfl rfl rfl rfl c2 rfl) ?_ | refine AL.op rfl (yb rfl rfl rfl rfl c3 rfl) ?_ | refine ym ?_ | (refine yj rfl rfl rfl (fun hc => ?_) (fun hc => ?_) <;> (fail_if_success (exact absurd hc (by decide))) <;> (try simp only [hsx] at hc) <;> (try first | omega | contradiction | (simp [qa] at hc; done))) | (refine AL.op rfl (yi rfl rfl rfl rfl rfl (by omega) (by omega)) ?_)) | ((with_reducible show DQ _ _ _ _ _ _); first | refine DQ.stepc (LS.store (i := ti24) (v := .agg [.nils]) (ty := 24) (sz := 1) (rows := [ti24.zero]) (r := ti24.zero) tabs rfl rfl rfl rfl rfl rfl rfl rfl rfl rfl (Nat.le_of_ble_eq_true rfl) rfl) rfl rfl rfl rfl rfl ?_ | refine DQ.stepc (LS.store (i := ti44) (v := (nodeAt f h).av) (ty := 44) (sz := 16) (rows := [ti44.zero]) (r := ti44.zero) tabs rfl rfl rfl rfl rfl rfl rfl rfl rfl rfl (Nat.le_of_ble_eq_true rfl) rfl) rfl rfl rfl rfl rfl ?_ | refine DQ.stepc (LS.val tabs rfl rfl rfl) rfl rfl rfl rfl rfl ?_ | refine DQ.stepc (yab rfl rfl) rfl rfl rfl rfl rfl ?_ | refine DQ.nilM (by kernel_rfl) ?_ | refine DQ.stepc (yaf rfl rfl rfl rfl rfl rfl (by omega) (by omega)) rfl rfl rfl rfl rfl ?_ | (refine DQ.gsplitE rfl rfl rfl (fun hc => ?_) (fun hc => ?_) <;> (fail_if_success (exact absurd hc (by decide))) <;> (try simp only [hsx] at hc) <;> (try first | omega | contradiction | (simp [qa] at hc; done)))) | refine yn ?_ | refine yc ?_ | refine ya ?_ | refine yf ?_ | refine yh rfl ?_ | refine yg rfl ?_ | (refine yk rfl (fun hc => ?_) (fun hc => ?_) <;> (try simp only [hsx] at hc) <;> (try first | omega | contradiction | (simp [qa] at hc; done))) | refine yo ?_ | refine yd ?_ | refine yx mixed (by kernel_rfl) ?_))
  all_goals first
    | exact RQ.fin rfl rfl rfl
noncomputable def ansS (q : PS) (made : Int) : AV := if q.why = 0 then .tup [fav q.F, iav made, .imm (.sl (q.L.map Change.iv)), iav 0] else .tup [fav [], iav 0, .imm (.sl []), iav q.why]
theorem qnu (f : List Node) (h off : Int) (p1 p2 p3 p4 q : PS) (b1 : Bool) (hf : Fit f) (he : cfP f h true = 0) (h0 : 0 ≤ off) (h1 : off < 4294967296) (ho : off ≤ (nodeAt f h).data.length) (S : SplitS f h off p1 p2 p3 p4 q b1)
    (hf4 : Fit p4.F) (hL1 : p1.L.length ≤ 1000000) (hL2 : p2.L.length ≤ 1000000) (hL3 : p3.L.length ≤ 1000000) (hL4 : p4.L.length ≤ 1000000) (hL : q.L.length ≤ 1000000) (hL0 : q.why = 0 → q.L ≠ []) (hfc : ∀ i : Int, 0 ≤ i → i < q.L.length → FitC (atI q.L i)) :
    PureC Tryz.prog 12 [fav f, iav h, u32 off] (ansS q (if b1 = true then f.length + 1 else 0)) := by
  have hl := hf.len
  have c1 := qa1 f h true hf
  rw [he] at c1
  have c2 := qz f h hl
  have hdl := (hf.at h).data
  have c3 := qns (nodeAt f h).data off 4294967295 h0 h1 (by omega) (by omega) hdl
  rw [if_pos ho, if_pos ho] at c3
  have hrl : (restL f h off).length ≤ 1000000000 := Nat.le_trans (qju _ _ _) hdl
  rw [show subP (nodeAt f h).data off 4294967295 = restL f h off from rfl] at c3
  have c4 := GenC.cv (ab := [.ptr 0 1 0 0, rawT (nodeAt f h).doc (restL f h off)]) (qoq (pen0 f) p1 (restN f h off) b1 hl (by simp [pen0]) S.made) rfl
  obtain ⟨x, hx⟩ : ∃ x : Int, x = if b1 = true then (f.length : Int) + 1 else 0 := ⟨_, rfl⟩
  have hx' : mkX (pen0 f) b1 = x := by rw [hx]; cases b1 <;> rfl
  rw [hx'] at c4
  rw [← hx]
  have c5 := qc0 f h 1 hf (by omega) (by omega)
  have c6 := qnr f h hf
  have hp0 := qjs f h
  have hp1 := qjt f h hf
  have hxb : x ≠ 0 → b1 = true := by rw [hx]; cases b1 <;> simp
  have hxe : x ≠ 0 → x = f.length + 1 := by intro h; rw [hx, if_pos (hxb h)]
  obtain ⟨b5, H5⟩ := S.put
  have c7 := GenC.cv (ab := [.ptr 0 1 0 0, iav h, u32 off, u32 (restL f h off).length, .nils]) (qjp p4 q h off (restL f h off).length [] b5 hf4 hL4 h0 h1 (by omega) (by omega) (by simp) H5) rfl
  unfold penB at c7
  have hmr : (List.map u16 (restL f h off)).length = (restL f h off).length := List.length_map _
  rw [← hmr] at c7
  obtain ⟨n, hn⟩ : ∃ n, n = nodeAt f h := ⟨_, rfl⟩
  refine yq tabs Tryz.func12 104 [.cell 6 24, .tmp 7, .tmp 8, .tmp 9] rfl rfl rfl rfl rfl ?_; intro w0 X
  refine AW.reserve 112 3 rfl ?_
  (repeat' (first | ((with_reducible show AL _ _ _ _ _); first | (refine AL.step tabs rfl ?_; try dsimp only [len, List.nil_append, List.cons_append]) | refine AL.op rfl (yb rfl rfl rfl rfl c1 rfl) ?_ | refine AL.op rfl (yb rfl rfl rfl rfl c2 rfl) ?_ | refine AL.op rfl (yb rfl rfl rfl rfl c3 rfl) ?_ | refine yac [0] 4 rfl rfl rfl rfl rfl (caps := []) rfl (on_c f) rfl rfl rfl rfl rfl rfl rfl rfl (hpA := [⟨112, 3, [[.imm (.sl (f.map Node.iv)), .os 5 0, iav 0]]⟩, ⟨24, 1, [[.imm (.sl (f.map Node.iv))]]⟩, ⟨58, 36, []⟩]) rfl (r' := .ptr 0 1 0 0) rfl rfl ?_; try dsimp only [setAll, List.drop_succ_cons, List.drop_zero, List.drop_nil, List.set_cons_succ, List.set_cons_zero, List.cons_append, List.nil_append, List.append_nil, len, Nat.reduceAdd] | refine yac [0, 5] 6 rfl rfl rfl rfl rfl (caps := []) rfl c4 rfl (by simp only [List.map_cons, List.map_nil, renC]; rfl) rfl rfl (by simp only [qax]; exact ⟨⟨rfl, rfl, rfl⟩, qe _ _⟩) rfl (by simp only [qax]; exact ⟨⟨rfl, rfl, rfl⟩, qe _ _⟩) rfl (hpA := [⟨112, 3, [[.imm (.sl ((p1).F.map Node.iv)), .os 5 (p1).L.length, iav (p1).why]]⟩, ⟨58, 36, (p1).L.map rowC⟩]) (by simp only [List.map_cons, List.map_nil, renC]; rfl) (r' := iav x) rfl rfl ?_; try dsimp only [setAll, List.drop_succ_cons, List.drop_zero, List.drop_nil, List.set_cons_succ, List.set_cons_zero, List.cons_append, List.nil_append, List.append_nil, len, Nat.reduceAdd] | refine ym ?_ | (refine yj rfl rfl rfl (fun hc => ?_) (fun hc => ?_) <;> (fail_if_success (exact absurd hc (by decide))) <;> (try simp only [hsx] at hc) <;> (try first | omega | contradiction | (simp [qa] at hc; done))) | (refine AL.op rfl (yi rfl rfl rfl rfl rfl (by omega) (by omega)) ?_)) | ((with_reducible show DQ _ _ _ _ _ _); first | refine DQ.stepc (LS.store (i := ti44) (v := (nodeAt f h).av) (ty := 44) (sz := 16) (rows := [ti44.zero]) (r := ti44.zero) tabs rfl rfl rfl rfl rfl rfl rfl rfl rfl rfl (Nat.le_of_ble_eq_true rfl) rfl) rfl rfl rfl rfl rfl ?_ | refine DQ.stepc (LS.val tabs rfl rfl rfl) rfl rfl rfl rfl rfl ?_ | refine DQ.stepc (yab rfl rfl) rfl rfl rfl rfl rfl ?_ | refine DQ.nilM (by kernel_rfl) ?_ | refine DQ.stepc (yaf rfl rfl rfl rfl rfl rfl (by omega) (by omega)) rfl rfl rfl rfl rfl ?_ | (refine DQ.gsplitE rfl rfl rfl (fun hc => ?_) (fun hc => ?_) <;> (fail_if_success (exact absurd hc (by decide))) <;> (try simp only [hsx] at hc) <;> (try first | omega | contradiction | (simp [qa] at hc; done)))) | refine ybp (t := 54) True ⟨[(1, iav h), (2, u32 off), (6, .ptr 2 1 0 0), (12, .imm (.sl ((restL f h off).map u16))), (14, .ptr 0 1 0 0), (15, iav x)], [⟨112, 3, [[.imm (.sl ((p4).F.map Node.iv)), .os 5 (p4).L.length, iav (p4).why]]⟩, ⟨24, 1, [[.imm (.sl (f.map Node.iv))]]⟩, ⟨24, 1, [[.nils]]⟩, ⟨44, 16, [rowS (nodeAt f h)]⟩, ⟨24, 1, [[.imm (.sl (f.map Node.iv))]]⟩, ⟨58, 36, (p4).L.map rowC⟩]⟩ ?_ (fun _ => ?_) | refine yn ?_ | refine yc ?_ | refine ya ?_ | refine yf ?_ | refine yh rfl ?_ | refine yg rfl ?_ | (refine yk rfl (fun hc => ?_) (fun hc => ?_) <;> (try simp only [hsx] at hc) <;> (try first | omega | contradiction | (simp [qa] at hc; done))) | refine yo ?_ | refine yd ?_ | refine yx mixed (by kernel_rfl) ?_))
  · have hb := hxb (by assumption)
    have hx1 := hxe (by assumption)
    obtain ⟨b2, H2⟩ := S.ins hb (by assumption)
    obtain ⟨b3, H3⟩ := S.tree hb (by assumption)
    obtain ⟨b4, H4⟩ := S.spl hb (by assumption)
    rw [← hx1] at H2 H3 H4
    have d2 := GenC.cv (ab := [.ptr 0 1 0 0, rawIn x (nodeAt f h).parent (placeP f h + 1)]) (do_c p1 p2 _ b2 hL1 H2) rfl
    have d3 := GenC.cv (ab := [.ptr 0 1 0 0, rawTr (nodeAt f h).parent x h (besideP f h 1)]) (do_c p2 p3 _ b3 hL2 H3) rfl
    have d4 := GenC.cv (ab := [.ptr 0 1 0 0, rawSp h x off]) (do_c p3 p4 _ b4 hL3 H4) rfl
    (repeat' (first | ((with_reducible show AL _ _ _ _ _); first | refine yb9 6 (h1 := [⟨112, 3, [[.imm (.sl ((p2).F.map Node.iv)), .os 5 (p2).L.length, iav (p2).why]]⟩, ⟨24, 1, [[.imm (.sl (f.map Node.iv))]]⟩, ⟨24, 1, [[.nils]]⟩, ⟨44, 16, [rowS (nodeAt f h)]⟩, ⟨24, 1, [[.imm (.sl (f.map Node.iv))]]⟩, ⟨58, 36, (p2).L.map rowC⟩]) (env1 := [(68, .ptr 0 1 0 0), (75, rawTr (nodeAt f h).parent x h (besideP f h 1)), (1, iav h), (2, u32 off), (6, .ptr 2 1 0 0), (12, .imm (.sl ((restL f h off).map u16))), (14, .ptr 0 1 0 0), (15, iav x)]) ([x].map i64) rfl rfl ⟨⟨_, rfl, rfl⟩, ⟨_, rfl, rfl⟩, ⟨_, rfl, rfl⟩, ⟨_, rfl, rfl⟩, ⟨_, rfl, rfl⟩, ⟨_, rfl, rfl⟩, ⟨_, rfl, rfl⟩, ⟨_, rfl, rfl⟩, trivial⟩ rfl rfl (by simp only [qax]; exact ⟨⟨rfl, rfl, rfl⟩, rfl, rfl, qao (nodeAt f h) _, rfl, qe _ _⟩) (Nat.zero_le _) ?_ | refine AL.op rfl (ybn tabs rfl rfl rfl rfl rfl rfl (by omega) (by omega)) ?_ | (refine AL.step tabs rfl ?_; try dsimp only [len, List.nil_append, List.cons_append]) | refine AL.op rfl (yb rfl rfl rfl rfl c5 rfl) ?_ | refine yac [0, 5] 6 rfl rfl rfl rfl rfl (caps := []) rfl d3 rfl (by simp only [List.map_cons, List.map_nil, renC]; rfl) rfl rfl (by simp only [qax]; exact ⟨⟨rfl, rfl, rfl⟩, qe _ _⟩) rfl (by simp only [qax]; exact ⟨⟨rfl, rfl, rfl⟩, qe _ _⟩) rfl (hpA := [⟨112, 3, [[.imm (.sl ((p3).F.map Node.iv)), .os 5 (p3).L.length, iav (p3).why]]⟩, ⟨58, 36, (p3).L.map rowC⟩]) (by simp only [List.map_cons, List.map_nil, renC]; rfl) (r' := bav b3) rfl rfl ?_; try dsimp only [setAll, List.drop_succ_cons, List.drop_zero, List.drop_nil, List.set_cons_succ, List.set_cons_zero, List.cons_append, List.nil_append, List.append_nil, len, Nat.reduceAdd] | refine yac [0, 5] 6 rfl rfl rfl rfl rfl (caps := []) rfl d4 rfl (by simp only [List.map_cons, List.map_nil, renC]; rfl) rfl rfl (by simp only [qax]; exact ⟨⟨rfl, rfl, rfl⟩, qe _ _⟩) rfl (by simp only [qax]; exact ⟨⟨rfl, rfl, rfl⟩, qe _ _⟩) rfl (hpA := [⟨112, 3, [[.imm (.sl ((p4).F.map Node.iv)), .os 5 (p4).L.length, iav (p4).why]]⟩, ⟨58, 36, (p4).L.map rowC⟩]) (by simp only [List.map_cons, List.map_nil, renC]; rfl) (r' := bav b4) rfl rfl ?_; try dsimp only [setAll, List.drop_succ_cons, List.drop_zero, List.drop_nil, List.set_cons_succ, List.set_cons_zero, List.cons_append, List.nil_append, List.append_nil, len, Nat.reduceAdd] | refine ym ?_ | (refine yj rfl rfl rfl (fun hc => ?_) (fun hc => ?_) <;> (fail_if_success (exact absurd hc (by decide))) <;> (try simp only [hsx] at hc) <;> (try first | omega | contradiction | (simp [qa] at hc; done))) | (refine AL.op rfl (yi rfl rfl rfl rfl rfl (by omega) (by omega)) ?_)) | ((with_reducible show DQ _ _ _ _ _ _); first | refine DQ.stepc (yai rfl rfl rfl rfl rfl c6 rfl) rfl rfl rfl rfl rfl ?_ | refine DQ.stepc (LS.val tabs rfl rfl rfl) rfl rfl rfl rfl rfl ?_ | refine DQ.stepc (yab rfl rfl) rfl rfl rfl rfl rfl ?_ | refine DQ.nilM (by kernel_rfl) ?_ | refine DQ.stepc (yaf rfl rfl rfl rfl rfl rfl (by omega) (by omega)) rfl rfl rfl rfl rfl ?_ | (refine DQ.gsplitE rfl rfl rfl (fun hc => ?_) (fun hc => ?_) <;> (fail_if_success (exact absurd hc (by decide))) <;> (try simp only [hsx] at hc) <;> (try first | omega | contradiction | (simp [qa] at hc; done)))) | ((with_reducible show M2.DQ _ _ _ _ _ _); first | refine M2.DQ.step2 (M2.LS.callG [0, 5] (caps := []) rfl rfl rfl rfl rfl d2 (fun _ => rfl) (bs := [⟨112, 3, [[.imm (.sl ((p1).F.map Node.iv)), .os 5 (p1).L.length, iav (p1).why]]⟩, ⟨58, 36, (p1).L.map rowC⟩]) rfl (fun n => by simp only [List.map_cons, List.map_nil, renC]; rfl) rfl rfl (by simp only [qax]; exact ⟨⟨rfl, rfl, rfl⟩, qe _ _⟩) rfl (by simp only [qax]; exact ⟨⟨rfl, rfl, rfl⟩, qe _ _⟩) rfl (hpA := [⟨112, 3, [[.imm (.sl ((p2).F.map Node.iv)), .os 5 (p2).L.length, iav (p2).why]]⟩, ⟨58, 36, (p2).L.map rowC⟩]) (fun n => by simp only [List.map_cons, List.map_nil, renC]; rfl) (r' := bav b2) (fun _ => rfl)) rfl rfl rfl rfl rfl ?_ | refine M2.DQ.stepc (yai rfl rfl rfl rfl rfl c6 rfl) rfl rfl rfl rfl rfl ?_ | refine M2.DQ.stepc (LS.val tabs rfl rfl rfl) rfl rfl rfl rfl rfl ?_ | refine M2.DQ.stepc (yab rfl rfl) rfl rfl rfl rfl rfl ?_ | refine M2.DQ.nilM (by kernel_rfl) ?_ | refine M2.DQ.stepc (yaf rfl rfl rfl rfl rfl rfl (by omega) (by omega)) rfl rfl rfl rfl rfl ?_ | (refine M2.DQ.gsplitE rfl rfl rfl (fun hc => ?_) (fun hc => ?_) <;> (fail_if_success (exact absurd hc (by decide))) <;> (try simp only [hsx] at hc) <;> (try first | omega | contradiction | (simp [qa] at hc; done)))) | refine M2.drawW (id := 12) mixed (by kernel_rfl) ?_ | refine yn ?_ | refine yc ?_ | refine ya ?_ | refine yf ?_ | refine yh rfl ?_ | refine yg rfl ?_ | (refine yk rfl (fun hc => ?_) (fun hc => ?_) <;> (try simp only [hsx] at hc) <;> (try first | omega | contradiction | (simp [qa] at hc; done))) | refine yo ?_ | refine yd ?_ | refine yx mixed (by kernel_rfl) ?_))
    all_goals first
      | exact yce trivial (yae 6 rfl (by repeat' (first | exact trivial | refine ⟨rfl, ?_⟩)) rfl (by simp only [qax]; exact ⟨⟨rfl, rfl, rfl⟩, rfl, rfl, qao (nodeAt f h) _, rfl, qe _ _⟩) (Nat.zero_le _))
  · have e := S.lone (.inr (by assumption))
    subst e
    exact yce trivial (yae 6 rfl (by repeat' (first | exact trivial | refine ⟨rfl, ?_⟩)) rfl (by simp only [qax]; exact ⟨⟨rfl, rfl, rfl⟩, rfl, rfl, qao (nodeAt f h) _, rfl, qe _ _⟩) (Nat.zero_le _))
  · have e := S.lone (.inl (by rw [hc] at hx; cases b1 <;> simp at hx <;> first | rfl | omega))
    subst e
    exact yce trivial (yae 6 rfl (by repeat' (first | exact trivial | refine ⟨rfl, ?_⟩)) rfl (by simp only [qax]; exact ⟨⟨rfl, rfl, rfl⟩, rfl, rfl, qao (nodeAt f h) _, rfl, qe _ _⟩) (Nat.zero_le _))
  · unfold ansS
    by_cases hw : q.why = 0
    · rw [if_pos hw]
      have c8 := qor q hw hL (hL0 hw) hfc
      (repeat' (first | ((with_reducible show AL _ _ _ _ _); first | refine AL.op rfl (ybz tabs rfl rfl rfl rfl rfl rfl (by omega) (by omega)) ?_ | (refine AL.step tabs rfl ?_; try dsimp only [len, List.nil_append, List.cons_append]) | refine yac [0, 5] 6 rfl rfl rfl rfl rfl (caps := []) rfl c7 rfl (by simp only [List.map_cons, List.map_nil, renC]; rfl) rfl rfl (by simp only [qax]; exact ⟨⟨rfl, rfl, rfl⟩, qe _ _⟩) rfl (by simp only [qax]; exact ⟨⟨rfl, rfl, rfl⟩, qe _ _⟩) rfl (hpA := [⟨112, 3, [[.imm (.sl ((q).F.map Node.iv)), .os 5 (q).L.length, iav (q).why]]⟩, ⟨58, 36, (q).L.map rowC⟩]) (by simp only [List.map_cons, List.map_nil, renC]; rfl) (r' := bav b5) rfl rfl ?_; try dsimp only [setAll, List.drop_succ_cons, List.drop_zero, List.drop_nil, List.set_cons_succ, List.set_cons_zero, List.cons_append, List.nil_append, List.append_nil, len, Nat.reduceAdd] | refine yac [0, 5] 6 rfl rfl rfl rfl rfl (caps := []) rfl c8 rfl (by simp only [List.map_cons, List.map_nil, renC]; rfl) rfl rfl (by simp only [qax]; exact ⟨⟨rfl, rfl, rfl⟩, qe _ _⟩) rfl (by simp only [qax]; exact ⟨⟨rfl, rfl, rfl⟩, qe _ _, rfl, qe _ _⟩) rfl (hpA := [⟨112, 3, [[.imm (.sl ((q).F.map Node.iv)), .os 5 (q).L.length, iav (q).why]]⟩, ⟨58, 36, (q).L.map rowC⟩, ⟨24, 1, [[.imm (.sl ((q).F.map Node.iv))]]⟩, ⟨58, 36, (q).L.map rowC⟩]) (by simp only [List.map_cons, List.map_nil, renC]; rfl) (r' := .tup [fav q.F, .os 7 q.L.length, iav 0]) rfl rfl ?_; try dsimp only [setAll, List.drop_succ_cons, List.drop_zero, List.drop_nil, List.set_cons_succ, List.set_cons_zero, List.cons_append, List.nil_append, List.append_nil, len, Nat.reduceAdd] | refine ym ?_ | (refine yj rfl rfl rfl (fun hc => ?_) (fun hc => ?_) <;> (fail_if_success (exact absurd hc (by decide))) <;> (try simp only [hsx] at hc) <;> (try first | omega | contradiction | (simp [qa] at hc; done))) | (refine AL.op rfl (yi rfl rfl rfl rfl rfl (by omega) (by omega)) ?_)) | ((with_reducible show DQ _ _ _ _ _ _); first | refine DQ.stepc (LS.store (i := ti24) (v := fav q.F) (ty := 24) (sz := 1) (rows := [ti24.zero]) (r := ti24.zero) tabs rfl rfl rfl rfl rfl rfl rfl rfl rfl rfl (Nat.le_of_ble_eq_true rfl) rfl) rfl rfl rfl rfl rfl ?_ | refine DQ.stepc (LS.val tabs rfl rfl rfl) rfl rfl rfl rfl rfl ?_ | refine DQ.stepc (yab rfl rfl) rfl rfl rfl rfl rfl ?_ | refine DQ.nilM (by kernel_rfl) ?_ | refine DQ.stepc (yaf rfl rfl rfl rfl rfl rfl (by omega) (by omega)) rfl rfl rfl rfl rfl ?_ | (refine DQ.gsplitE rfl rfl rfl (fun hc => ?_) (fun hc => ?_) <;> (fail_if_success (exact absurd hc (by decide))) <;> (try simp only [hsx] at hc) <;> (try first | omega | contradiction | (simp [qa] at hc; done)))) | refine yn ?_ | refine yc ?_ | refine ya ?_ | refine yf ?_ | refine yh rfl ?_ | refine yg rfl ?_ | (refine yk rfl (fun hc => ?_) (fun hc => ?_) <;> (try simp only [hsx] at hc) <;> (try first | omega | contradiction | (simp [qa] at hc; done))) | refine yo ?_ | refine yd ?_ | refine yx mixed (by kernel_rfl) ?_))
      all_goals first
        | exact yao rfl (ya0 (.cons (Fz.im rfl) (.cons (Fz.im rfl) (.cons (Fz.os (b := ⟨58, 36, q.L.map rowC⟩) (rows := q.L.map Change.iv) rfl (List.length_map _).symm (by rw [List.map_map]; rfl)) (.cons (Fz.im rfl) .nil)))))
    · rw [if_neg hw]
      have c8 := qmz q hw
      (repeat' (first | ((with_reducible show AL _ _ _ _ _); first | refine AL.op rfl (ybz tabs rfl rfl rfl rfl rfl rfl (by omega) (by omega)) ?_ | (refine AL.step tabs rfl ?_; try dsimp only [len, List.nil_append, List.cons_append]) | refine yac [0, 5] 6 rfl rfl rfl rfl rfl (caps := []) rfl c7 rfl (by simp only [List.map_cons, List.map_nil, renC]; rfl) rfl rfl (by simp only [qax]; exact ⟨⟨rfl, rfl, rfl⟩, qe _ _⟩) rfl (by simp only [qax]; exact ⟨⟨rfl, rfl, rfl⟩, qe _ _⟩) rfl (hpA := [⟨112, 3, [[.imm (.sl ((q).F.map Node.iv)), .os 5 (q).L.length, iav (q).why]]⟩, ⟨58, 36, (q).L.map rowC⟩]) (by simp only [List.map_cons, List.map_nil, renC]; rfl) (r' := bav b5) rfl rfl ?_; try dsimp only [setAll, List.drop_succ_cons, List.drop_zero, List.drop_nil, List.set_cons_succ, List.set_cons_zero, List.cons_append, List.nil_append, List.append_nil, len, Nat.reduceAdd] | refine yac [0, 5] 6 rfl rfl rfl rfl rfl (caps := []) rfl c8 rfl (by simp only [List.map_cons, List.map_nil, renC]; rfl) rfl rfl (by simp only [qax]; exact ⟨⟨rfl, rfl, rfl⟩, qe _ _⟩) rfl (by simp only [qax]; exact ⟨⟨rfl, rfl, rfl⟩, qe _ _⟩) rfl (hpA := [⟨112, 3, [[.imm (.sl ((q).F.map Node.iv)), .os 5 (q).L.length, iav (q).why]]⟩, ⟨58, 36, (q).L.map rowC⟩]) (by simp only [List.map_cons, List.map_nil, renC]; rfl) (r' := .tup [.agg [.nils], .nils, iav q.why]) rfl rfl ?_; try dsimp only [setAll, List.drop_succ_cons, List.drop_zero, List.drop_nil, List.set_cons_succ, List.set_cons_zero, List.cons_append, List.nil_append, List.append_nil, len, Nat.reduceAdd] | refine ym ?_ | (refine yj rfl rfl rfl (fun hc => ?_) (fun hc => ?_) <;> (fail_if_success (exact absurd hc (by decide))) <;> (try simp only [hsx] at hc) <;> (try first | omega | contradiction | (simp [qa] at hc; done))) | (refine AL.op rfl (yi rfl rfl rfl rfl rfl (by omega) (by omega)) ?_)) | ((with_reducible show DQ _ _ _ _ _ _); first | refine DQ.stepc (LS.store (i := ti24) (v := .agg [.nils]) (ty := 24) (sz := 1) (rows := [ti24.zero]) (r := ti24.zero) tabs rfl rfl rfl rfl rfl rfl rfl rfl rfl rfl (Nat.le_of_ble_eq_true rfl) rfl) rfl rfl rfl rfl rfl ?_ | refine DQ.stepc (LS.val tabs rfl rfl rfl) rfl rfl rfl rfl rfl ?_ | refine DQ.stepc (yab rfl rfl) rfl rfl rfl rfl rfl ?_ | refine DQ.nilM (by kernel_rfl) ?_ | refine DQ.stepc (yaf rfl rfl rfl rfl rfl rfl (by omega) (by omega)) rfl rfl rfl rfl rfl ?_ | (refine DQ.gsplitE rfl rfl rfl (fun hc => ?_) (fun hc => ?_) <;> (fail_if_success (exact absurd hc (by decide))) <;> (try simp only [hsx] at hc) <;> (try first | omega | contradiction | (simp [qa] at hc; done)))) | refine yn ?_ | refine yc ?_ | refine ya ?_ | refine yf ?_ | refine yh rfl ?_ | refine yg rfl ?_ | (refine yk rfl (fun hc => ?_) (fun hc => ?_) <;> (try simp only [hsx] at hc) <;> (try first | omega | contradiction | (simp [qa] at hc; done))) | refine yo ?_ | refine yd ?_ | refine yx mixed (by kernel_rfl) ?_))
      all_goals first
        | exact RQ.fin rfl rfl rfl
end Go.Proofs.YtmhejcnaanocpaaGreat.A
