/- Contracts: chardata.Insert. -/
import Derived.Test.YtmhejcnaanocpaaGreatXRSGrpBB
import Derived.Test.YtmhejcnaanocpaaGreatXRSGrpBA
import Derived.Test.YtmhejcnaanocpaaGreatXRSGrpAX
namespace Go.Proofs.YtmhejcnaanocpaaGreat.A
set_option linter.unusedVariables false
set_option linter.unusedSimpArgs false
set_option maxRecDepth 100000
set_option maxHeartbeats 4000000
theorem qmk (a n : Int) : GenC Tryz.prog 65 [⟨25, 1, [[u32 a]]⟩] [u32 n, .ptr 0 1 0 0] (.tup [u32 a, u32 0]) [⟨25, 1, [[u32 a]]⟩] := by
  refine yah tabs Tryz.func65 6 [.tmp 3, .tmp 4] rfl rfl rfl rfl rfl ?_; intro w0 X γ κ
  (repeat' (first | ((with_reducible show AL _ _ _ _ _); first | (refine yf tabs rfl ?_; try dsimp only [len, List.nil_append, List.cons_append]) | refine yn ?_) | refine ym ?_ | refine ya ?_ | refine yb ?_ | refine yg ?_ | refine yo ?_ | refine yc ?_))
  exact yal 1 rfl rfl rfl rfl rfl (by simp [cxG])
theorem qj8 (f : List Node) (h : Int) (v : List Int) (a : Int) (hf : Fit f) (he : cfP f h false ≠ 0) : GenC Tryz.prog 61 [⟨25, 1, [[u32 a]]⟩] [fav f, iav h, .imm (.sl (v.map u16)), .fn 65 [.ptr 0 1 0 0]] (.tup [.agg [.nils], .nils, iav (cfP f h false)]) [⟨25, 1, [[u32 a]]⟩] := by
  have c1 := q8 f h false hf
  obtain ⟨w, hw⟩ : ∃ w, w = cfP f h false := ⟨_, rfl⟩
  rw [← hw] at c1 he ⊢
  refine yah tabs Tryz.func61 46 [.cell 8 24, .tmp 9, .tmp 10] rfl rfl rfl rfl rfl ?_; intro w0 X γ κ
  (repeat' (first | ((with_reducible show AL _ _ _ _ _); first | (refine yf tabs rfl ?_; try dsimp only [len, List.nil_append, List.cons_append]) | refine AL.op rfl (yd rfl rfl rfl rfl c1 rfl) ?_ | refine yn ?_) | ((with_reducible show DQ _ _ _ _ _ _); first | refine DQ.stepc (LS.store (i := ti24) (v := .agg [.nils]) (ty := 24) (sz := 1) (rows := [ti24.zero]) (r := ti24.zero) tabs rfl rfl rfl rfl rfl rfl rfl rfl rfl rfl (Nat.le_of_ble_eq_true rfl) rfl) rfl rfl rfl rfl rfl ?_ | refine DQ.stepc (LS.val tabs rfl rfl rfl) rfl rfl rfl rfl rfl ?_ | refine DQ.stepc (yu rfl rfl) rfl rfl rfl rfl rfl ?_ | refine DQ.nilM (by kernel_rfl) ?_) | refine ym ?_ | refine ya ?_ | refine yb ?_ | refine yg ?_ | refine yi rfl ?_ | refine yh rfl ?_ | (refine yk rfl (fun hc => ?_) (fun hc => ?_) <;> (try simp only [hsx] at hc) <;> (try first | omega | contradiction | (simp [qa] at hc; done))) | refine yo ?_ | refine yc ?_ | refine yr mixed (by kernel_rfl) ?_))
  all_goals first
    | (exfalso; exact he hc)
    | exact yal 1 rfl rfl rfl rfl rfl (by simp [cxG])
theorem qh3 (f : List Node) (q : PS) (bb : Bool) (h : Int) (v : List Int) (a : Int) (hf : Fit f) (a0 : 0 ≤ a) (a1 : a < 4294967296) (hv : v.length ≤ 1000000000) (he : cfP f h false = 0) (H : PutR h a 0 v (pen0 f) q bb) (hw : q.why ≠ 0) : GenC Tryz.prog 61 [⟨25, 1, [[u32 a]]⟩] [fav f, iav h, .imm (.sl (v.map u16)), .fn 65 [.ptr 0 1 0 0]] (.tup [.agg [.nils], .nils, iav q.why]) [⟨25, 1, [[u32 a]]⟩] := by
  have c1 := q8 f h false hf
  rw [he] at c1
  have hl := hf.len
  have hdl := (hf.at h).data
  have c2 := qw f h hl
  have hmn : ((nodeAt f h).data.map u16).length = (nodeAt f h).data.length := List.length_map _
  have c3 := qcq (pen0 f) q h a 0 v bb hf (by simp [pen0]) a0 a1 (by omega) (by omega) hv H
  have c4 := qeb q hw
  obtain ⟨n, hn⟩ : ∃ n, n = nodeAt f h := ⟨_, rfl⟩
  rw [← hn] at c2 hdl hmn
  unfold penB pen0 at c3
  refine yah tabs Tryz.func61 46 [.cell 8 24, .tmp 9, .tmp 10] rfl rfl rfl rfl rfl ?_; intro w0 X γ κ
  refine AW.reserve 112 3 rfl ?_
  (repeat' (first | ((with_reducible show AL _ _ _ _ _); first | refine AL.op rfl (yaz tabs rfl rfl rfl rfl rfl rfl (by omega) (by omega)) ?_ | (refine yf tabs rfl ?_; try dsimp only [len, List.nil_append, List.cons_append]) | refine AL.op rfl (yd rfl rfl rfl rfl c1 rfl) ?_ | refine yz [1] 4 rfl rfl rfl rfl rfl (caps := []) rfl (on_c f) rfl rfl rfl rfl rfl rfl rfl rfl (hpA := [⟨112, 3, [[.imm (.sl (f.map Node.iv)), .os 5 0, iav 0]]⟩, ⟨24, 1, [[.imm (.sl (f.map Node.iv))]]⟩, ⟨58, 36, []⟩]) rfl (r' := .ptr 1 1 0 0) rfl rfl ?_; try dsimp only [setAll, List.drop_succ_cons, List.drop_zero, List.drop_nil, List.set_cons_succ, List.set_cons_zero, List.cons_append, List.nil_append, List.append_nil, len] | refine AL.op rfl (yd rfl rfl rfl rfl c2 rfl) ?_ | refine yz [0] 6 rfl rfl rfl rfl (caps := [.ptr 0 1 0 0]) rfl rfl (qmk a _) rfl rfl rfl rfl rfl rfl rfl rfl (hpA := [⟨25, 1, [[u32 a]]⟩]) rfl (r' := .tup [u32 a, u32 0]) rfl rfl ?_ | refine yz [1, 5] 6 rfl rfl rfl rfl rfl (caps := []) rfl c3 rfl (by simp only [List.map_cons, List.map_nil, renC]; rfl) rfl rfl (by simp only [qax]; exact ⟨⟨rfl, rfl, rfl⟩, qd _ _⟩) rfl (by simp only [qax]; exact ⟨⟨rfl, rfl, rfl⟩, qd _ _⟩) rfl (hpA := [⟨112, 3, [[.imm (.sl ((q).F.map Node.iv)), .os 5 (q).L.length, iav (q).why]]⟩, ⟨58, 36, (q).L.map rowC⟩]) (by simp only [List.map_cons, List.map_nil, renC]; rfl) (r' := bav bb) rfl rfl ?_; try dsimp only [setAll, List.drop_succ_cons, List.drop_zero, List.drop_nil, List.set_cons_succ, List.set_cons_zero, List.cons_append, List.nil_append, List.append_nil, len, Nat.reduceAdd] | refine yz [1, 5] 6 rfl rfl rfl rfl rfl (caps := []) rfl c4 rfl (by simp only [List.map_cons, List.map_nil, renC]; rfl) rfl rfl (by simp only [qax]; exact ⟨⟨rfl, rfl, rfl⟩, qd _ _⟩) rfl (by simp only [qax]; exact ⟨⟨rfl, rfl, rfl⟩, qd _ _⟩) rfl (hpA := [⟨112, 3, [[.imm (.sl ((q).F.map Node.iv)), .os 5 (q).L.length, iav (q).why]]⟩, ⟨58, 36, (q).L.map rowC⟩]) (by simp only [List.map_cons, List.map_nil, renC]; rfl) (r' := .tup [.agg [.nils], .nils, iav q.why]) rfl rfl ?_; try dsimp only [setAll, List.drop_succ_cons, List.drop_zero, List.drop_nil, List.set_cons_succ, List.set_cons_zero, List.cons_append, List.nil_append, List.append_nil, len, Nat.reduceAdd] | refine yn ?_) | ((with_reducible show DQ _ _ _ _ _ _); first | refine DQ.stepc (LS.store (i := ti24) (v := .agg [.nils]) (ty := 24) (sz := 1) (rows := [ti24.zero]) (r := ti24.zero) tabs rfl rfl rfl rfl rfl rfl rfl rfl rfl rfl (Nat.le_of_ble_eq_true rfl) rfl) rfl rfl rfl rfl rfl ?_ | refine DQ.stepc (LS.val tabs rfl rfl rfl) rfl rfl rfl rfl rfl ?_ | refine DQ.stepc (yu rfl rfl) rfl rfl rfl rfl rfl ?_ | refine DQ.nilM (by kernel_rfl) ?_) | refine ym ?_ | refine ya ?_ | refine yb ?_ | refine yg ?_ | refine yi rfl ?_ | refine yh rfl ?_ | (refine yk rfl (fun hc => ?_) (fun hc => ?_) <;> (try simp only [hsx] at hc) <;> (try first | omega | contradiction | (simp [qa] at hc; done))) | refine yo ?_ | refine yc ?_ | refine yr mixed (by kernel_rfl) ?_))
  exact yal 1 rfl rfl rfl rfl rfl (by simp [cxG])
theorem qnt (f : List Node) (q : PS) (bb : Bool) (h : Int) (v : List Int) (a : Int) (hf : Fit f) (a0 : 0 ≤ a) (a1 : a < 4294967296) (hv : v.length ≤ 1000000000) (he : cfP f h false = 0) (H : PutR h a 0 v (pen0 f) q bb) (hw : q.why = 0) (hL : q.L.length ≤ 1000000) (hL0 : q.L ≠ []) (hfc : ∀ i : Int, 0 ≤ i → i < q.L.length → FitC (atI q.L i)) : GenC Tryz.prog 61 [⟨25, 1, [[u32 a]]⟩] [fav f, iav h, .imm (.sl (v.map u16)), .fn 65 [.ptr 0 1 0 0]] (.tup [fav q.F, .os 7 q.L.length, iav 0]) [⟨25, 1, [[u32 a]]⟩, ⟨112, 3, [[.imm (.sl ((q).F.map Node.iv)), .os 5 (q).L.length, iav (q).why]]⟩, ⟨24, 1, [[.imm (.sl (f.map Node.iv))]]⟩, ⟨24, 1, [[.imm (.sl ((q).F.map Node.iv))]]⟩, ⟨24, 1, [[.imm (.sl (f.map Node.iv))]]⟩, ⟨58, 36, (q).L.map rowC⟩, ⟨24, 1, [[.imm (.sl ((q).F.map Node.iv))]]⟩, ⟨58, 36, (q).L.map rowC⟩] := by
  have c1 := q8 f h false hf
  rw [he] at c1
  have hl := hf.len
  have hdl := (hf.at h).data
  have c2 := qw f h hl
  have hmn : ((nodeAt f h).data.map u16).length = (nodeAt f h).data.length := List.length_map _
  have c3 := qcq (pen0 f) q h a 0 v bb hf (by simp [pen0]) a0 a1 (by omega) (by omega) hv H
  have c4 := qhp q hw hL hL0 hfc
  obtain ⟨n, hn⟩ : ∃ n, n = nodeAt f h := ⟨_, rfl⟩
  rw [← hn] at c2 hdl hmn
  unfold penB pen0 at c3
  refine yah tabs Tryz.func61 46 [.cell 8 24, .tmp 9, .tmp 10] rfl rfl rfl rfl rfl ?_; intro w0 X γ κ
  refine AW.reserve 112 3 rfl ?_
  (repeat' (first | ((with_reducible show AL _ _ _ _ _); first | refine AL.op rfl (yaz tabs rfl rfl rfl rfl rfl rfl (by omega) (by omega)) ?_ | (refine yf tabs rfl ?_; try dsimp only [len, List.nil_append, List.cons_append]) | refine AL.op rfl (yd rfl rfl rfl rfl c1 rfl) ?_ | refine yz [1] 4 rfl rfl rfl rfl rfl (caps := []) rfl (on_c f) rfl rfl rfl rfl rfl rfl rfl rfl (hpA := [⟨112, 3, [[.imm (.sl (f.map Node.iv)), .os 5 0, iav 0]]⟩, ⟨24, 1, [[.imm (.sl (f.map Node.iv))]]⟩, ⟨58, 36, []⟩]) rfl (r' := .ptr 1 1 0 0) rfl rfl ?_; try dsimp only [setAll, List.drop_succ_cons, List.drop_zero, List.drop_nil, List.set_cons_succ, List.set_cons_zero, List.cons_append, List.nil_append, List.append_nil, len] | refine AL.op rfl (yd rfl rfl rfl rfl c2 rfl) ?_ | refine yz [0] 6 rfl rfl rfl rfl (caps := [.ptr 0 1 0 0]) rfl rfl (qmk a _) rfl rfl rfl rfl rfl rfl rfl rfl (hpA := [⟨25, 1, [[u32 a]]⟩]) rfl (r' := .tup [u32 a, u32 0]) rfl rfl ?_ | refine yz [1, 5] 6 rfl rfl rfl rfl rfl (caps := []) rfl c3 rfl (by simp only [List.map_cons, List.map_nil, renC]; rfl) rfl rfl (by simp only [qax]; exact ⟨⟨rfl, rfl, rfl⟩, qd _ _⟩) rfl (by simp only [qax]; exact ⟨⟨rfl, rfl, rfl⟩, qd _ _⟩) rfl (hpA := [⟨112, 3, [[.imm (.sl ((q).F.map Node.iv)), .os 5 (q).L.length, iav (q).why]]⟩, ⟨58, 36, (q).L.map rowC⟩]) (by simp only [List.map_cons, List.map_nil, renC]; rfl) (r' := bav bb) rfl rfl ?_; try dsimp only [setAll, List.drop_succ_cons, List.drop_zero, List.drop_nil, List.set_cons_succ, List.set_cons_zero, List.cons_append, List.nil_append, List.append_nil, len, Nat.reduceAdd] | refine yz [1, 5] 6 rfl rfl rfl rfl rfl (caps := []) rfl c4 rfl (by simp only [List.map_cons, List.map_nil, renC]; rfl) rfl rfl (by simp only [qax]; exact ⟨⟨rfl, rfl, rfl⟩, qd _ _⟩) rfl (by simp only [qax]; exact ⟨⟨rfl, rfl, rfl⟩, qd _ _, rfl, qd _ _⟩) rfl (hpA := [⟨112, 3, [[.imm (.sl ((q).F.map Node.iv)), .os 5 (q).L.length, iav (q).why]]⟩, ⟨58, 36, (q).L.map rowC⟩, ⟨24, 1, [[.imm (.sl ((q).F.map Node.iv))]]⟩, ⟨58, 36, (q).L.map rowC⟩]) (by simp only [List.map_cons, List.map_nil, renC]; rfl) (r' := .tup [fav q.F, .os 7 q.L.length, iav 0]) rfl rfl ?_; try dsimp only [setAll, List.drop_succ_cons, List.drop_zero, List.drop_nil, List.set_cons_succ, List.set_cons_zero, List.cons_append, List.nil_append, List.append_nil, len, Nat.reduceAdd] | refine yn ?_) | ((with_reducible show DQ _ _ _ _ _ _); first | refine DQ.stepc (LS.store (i := ti24) (v := fav q.F) (ty := 24) (sz := 1) (rows := [ti24.zero]) (r := ti24.zero) tabs rfl rfl rfl rfl rfl rfl rfl rfl rfl rfl (Nat.le_of_ble_eq_true rfl) rfl) rfl rfl rfl rfl rfl ?_ | refine DQ.stepc (LS.val tabs rfl rfl rfl) rfl rfl rfl rfl rfl ?_ | refine DQ.stepc (yu rfl rfl) rfl rfl rfl rfl rfl ?_ | refine DQ.nilM (by kernel_rfl) ?_) | refine ym ?_ | refine ya ?_ | refine yb ?_ | refine yg ?_ | refine yi rfl ?_ | refine yh rfl ?_ | (refine yk rfl (fun hc => ?_) (fun hc => ?_) <;> (try simp only [hsx] at hc) <;> (try first | omega | contradiction | (simp [qa] at hc; done))) | refine yo ?_ | refine yc ?_ | refine yr mixed (by kernel_rfl) ?_))
  exact yal 8 rfl rfl rfl rfl (by simp only [qax]; exact ⟨rfl, ⟨rfl, rfl, rfl⟩, rfl, rfl, rfl, qd _ _, rfl, qd _ _⟩) (by simp [cxG])
theorem qfw (f : List Node) (q : PS) (bb : Bool) (h : Int) (v : List Int) (a : Int) (hf : Fit f) (a0 : 0 ≤ a) (a1 : a < 4294967296) (hv : v.length ≤ 1000000000) (H : cfP f h false = 0 → PutR h a 0 v (pen0 f) q bb) : PureC Tryz.prog 21 [fav f, iav h, u32 a, .imm (.sl (v.map u16))] (ansP (cfP f h false) q) := by
  unfold ansP
  by_cases he : cfP f h false = 0
  · rw [if_neg (by omega)]
    have H := H he
    by_cases hw : q.why = 0
    · rw [if_neg (by omega)]
      have hLe := H.len rfl hw
      rw [show (pen0 f).L = [] from rfl, List.nil_append] at hLe
      have c1 := qnt f q bb h v a hf a0 a1 hv he H hw (by rw [hLe]; simp) (by rw [hLe]; simp) (by
        rw [hLe]
        intro i i0 i1
        have : i = 0 := by simp at i1; omega
        subst this
        exact qb7 _ _ _ _ _ hv)
      refine yp tabs Tryz.func21 19 [.cell 8 24, .tmp 9, .tmp 10] rfl rfl rfl rfl rfl ?_; intro w0 X
      (repeat' (first | ((with_reducible show AL _ _ _ _ _); first | (refine yf tabs rfl ?_; try dsimp only [len, List.nil_append, List.cons_append]) | refine yz [1] 3 rfl rfl rfl rfl rfl (caps := []) rfl c1 rfl rfl rfl rfl rfl rfl (by simp only [qax]; exact ⟨rfl, ⟨rfl, rfl, rfl⟩, rfl, rfl, rfl, qd _ _, rfl, qd _ _⟩) rfl (hpA := [⟨25, 1, [[u32 a]]⟩, ⟨112, 3, [[.imm (.sl ((q).F.map Node.iv)), .os 7 (q).L.length, iav (q).why]]⟩, ⟨24, 1, [[.imm (.sl (f.map Node.iv))]]⟩, ⟨24, 1, [[.imm (.sl ((q).F.map Node.iv))]]⟩, ⟨24, 1, [[.imm (.sl (f.map Node.iv))]]⟩, ⟨58, 36, (q).L.map rowC⟩, ⟨24, 1, [[.imm (.sl ((q).F.map Node.iv))]]⟩, ⟨58, 36, (q).L.map rowC⟩]) (by simp only [List.map_cons, List.map_nil, renC]; rfl) (r' := .tup [fav q.F, .os 9 q.L.length, iav 0]) rfl rfl ?_; try dsimp only [setAll, List.drop_succ_cons, List.drop_zero, List.drop_nil, List.set_cons_succ, List.set_cons_zero, List.cons_append, List.nil_append, List.append_nil, len, Nat.reduceAdd] | refine yn ?_) | ((with_reducible show DQ _ _ _ _ _ _); first | refine DQ.stepc (LS.store (i := ti24) (v := fav q.F) (ty := 24) (sz := 1) (rows := [ti24.zero]) (r := ti24.zero) tabs rfl rfl rfl rfl rfl rfl rfl rfl rfl rfl (Nat.le_of_ble_eq_true rfl) rfl) rfl rfl rfl rfl rfl ?_ | refine DQ.stepc (LS.val tabs rfl rfl rfl) rfl rfl rfl rfl rfl ?_ | refine DQ.stepc (yu rfl rfl) rfl rfl rfl rfl rfl ?_ | refine DQ.nilM (by kernel_rfl) ?_) | refine ym ?_ | refine ya ?_ | refine yb ?_ | refine yg ?_ | refine yo ?_ | refine yc ?_ | refine yr mixed (by kernel_rfl) ?_))
      exact yap rfl (ya5 (.cons (Fz.im rfl) (.cons (Fz.os (b := ⟨58, 36, q.L.map rowC⟩) (rows := q.L.map Change.iv) rfl (List.length_map _).symm (by rw [List.map_map]; rfl)) (.cons (Fz.im rfl) .nil))))
    · rw [if_pos hw]
      have c1 := qh3 f q bb h v a hf a0 a1 hv he H hw
      refine yp tabs Tryz.func21 19 [.cell 8 24, .tmp 9, .tmp 10] rfl rfl rfl rfl rfl ?_; intro w0 X
      (repeat' (first | ((with_reducible show AL _ _ _ _ _); first | (refine yf tabs rfl ?_; try dsimp only [len, List.nil_append, List.cons_append]) | refine yz [1] 3 rfl rfl rfl rfl rfl (caps := []) rfl c1 rfl rfl rfl rfl rfl rfl rfl rfl (hpA := [⟨25, 1, [[u32 a]]⟩]) rfl (r' := .tup [.agg [.nils], .nils, iav q.why]) rfl rfl ?_; try dsimp only [setAll, List.drop_succ_cons, List.drop_zero, List.drop_nil, List.set_cons_succ, List.set_cons_zero, List.cons_append, List.nil_append, List.append_nil, len, Nat.reduceAdd] | refine yn ?_) | ((with_reducible show DQ _ _ _ _ _ _); first | refine DQ.stepc (LS.store (i := ti24) (v := .agg [.nils]) (ty := 24) (sz := 1) (rows := [ti24.zero]) (r := ti24.zero) tabs rfl rfl rfl rfl rfl rfl rfl rfl rfl rfl (Nat.le_of_ble_eq_true rfl) rfl) rfl rfl rfl rfl rfl ?_ | refine DQ.stepc (LS.val tabs rfl rfl rfl) rfl rfl rfl rfl rfl ?_ | refine DQ.stepc (yu rfl rfl) rfl rfl rfl rfl rfl ?_ | refine DQ.nilM (by kernel_rfl) ?_) | refine ym ?_ | refine ya ?_ | refine yb ?_ | refine yg ?_ | refine yo ?_ | refine yc ?_ | refine yr mixed (by kernel_rfl) ?_))
      exact RQ.fin rfl rfl rfl
  · rw [if_pos he]
    have c1 := qj8 f h v a hf he
    refine yp tabs Tryz.func21 19 [.cell 8 24, .tmp 9, .tmp 10] rfl rfl rfl rfl rfl ?_; intro w0 X
    (repeat' (first | ((with_reducible show AL _ _ _ _ _); first | (refine yf tabs rfl ?_; try dsimp only [len, List.nil_append, List.cons_append]) | refine yz [1] 3 rfl rfl rfl rfl rfl (caps := []) rfl c1 rfl rfl rfl rfl rfl rfl rfl rfl (hpA := [⟨25, 1, [[u32 a]]⟩]) rfl (r' := .tup [.agg [.nils], .nils, iav (cfP f h false)]) rfl rfl ?_; try dsimp only [setAll, List.drop_succ_cons, List.drop_zero, List.drop_nil, List.set_cons_succ, List.set_cons_zero, List.cons_append, List.nil_append, List.append_nil, len, Nat.reduceAdd] | refine yn ?_) | ((with_reducible show DQ _ _ _ _ _ _); first | refine DQ.stepc (LS.store (i := ti24) (v := .agg [.nils]) (ty := 24) (sz := 1) (rows := [ti24.zero]) (r := ti24.zero) tabs rfl rfl rfl rfl rfl rfl rfl rfl rfl rfl (Nat.le_of_ble_eq_true rfl) rfl) rfl rfl rfl rfl rfl ?_ | refine DQ.stepc (LS.val tabs rfl rfl rfl) rfl rfl rfl rfl rfl ?_ | refine DQ.stepc (yu rfl rfl) rfl rfl rfl rfl rfl ?_ | refine DQ.nilM (by kernel_rfl) ?_) | refine ym ?_ | refine ya ?_ | refine yb ?_ | refine yg ?_ | refine yo ?_ | refine yc ?_ | refine yr mixed (by kernel_rfl) ?_))
    exact RQ.fin rfl rfl rfl
theorem qnu (f : List Node) (h off : Int) (v : List Int) (hf : Fit f) (h0 : 0 ≤ off) (h1 : off < 4294967296) (hv : v.length ≤ 1000000000) : PureC Tryz.prog 21 [fav f, iav h, u32 off, .imm (.sl (v.map u16))] (replA f h off 0 v) := by
  by_cases he : cfP f h false = 0
  · obtain ⟨hr, hh, _, hd⟩ := qaw he
    obtain ⟨b, hb⟩ := qdz (p := pen0 f) (h := h) (off := off) (cnt := 0) (v := v) (inv0 hf hr hh) (fun _ hre => (qcy hf hr hh hd h0 (by omega) hre).1)
    exact qfw f _ b h v off hf h0 h1 hv (fun _ => hb)
  · exact qfw f (rpQ f h off 0 v) true h v off hf h0 h1 hv (fun h => absurd h he)
theorem qom (f : List Node) (h off cnt : Int) (hf : Fit f) (h0 : 0 ≤ off) (h1 : off < 4294967296) (h2 : 0 ≤ cnt) (h3 : cnt < 4294967296) : PureC Tryz.prog 23 [fav f, iav h, u32 off, u32 cnt] (replA f h off cnt []) := by
  by_cases he : cfP f h false = 0
  · obtain ⟨hr, hh, _, hd⟩ := qaw he
    obtain ⟨b, hb⟩ := qdz (p := pen0 f) (h := h) (off := off) (cnt := cnt) (v := []) (inv0 hf hr hh) (fun _ hre => (qcy hf hr hh hd h0 h2 hre).1)
    exact qhj f _ b h off cnt hf h0 h1 h2 h3 (fun _ => hb)
  · exact qhj f (rpQ f h off cnt []) true h off cnt hf h0 h1 h2 h3 (fun h => absurd h he)
open Go.RowKit
theorem LS.nocap_at {C : Cx} {s : St} {o : Oper} {T : List (Nat × TI)} {l : List Oper} (p : Nat) (hT : TsOK C.P T) (hw : awant l s o = some true) (hd : dok C.nt o.dst = true) {x y : Operand} {t tx e : TypeId} (ho : o.op = .call ⟨.builtin .append, #[x, y], #[t, tx]⟩) {i ie : TI} (hi : look T t = some i) (hk : i.kd = .sl e) (hie : look T e = some ie) (hpos : 0 < ie.sz) (hx : s.ev x = some .nocap)
    {sz : Nat} (hp : nth s.hp p = some ⟨e, sz, []⟩) (hsz : sz = ie.sz) {rows2 : List (List AV)} (hne : rows2 ≠ []) (hsrc : ∀ s', Loc l s s' o [p] → SrcA C s' ie tx y rows2) (hbound : rows2.length * ie.bytes ≤ 140737488355328) (h63 : rows2.length ≤ 9223372036854775807) :
    LS C l s o (mkFx l s o (.blk p ⟨e, sz, rows2⟩ (.os p rows2.length)) [p]) :=
  LS.blk [p] hw fun s' hl => by
    have hxm : x ∈ o.op.operands.toList := by rw [ho]; simp [Op.operands, Call.operands]
    exact yas p hT hd ho hi hk hie hpos ((hl.ev x hxm).trans hx) ((hl.xb p (by simp)).trans hp) hsz hne (hsrc s' hl) hbound h63
def actA (p : PS) : AV := .agg [.imm (.sl (p.F.map Node.iv)), .imm (.sl (p.L.map Change.iv)), iav p.why]
theorem CanCh.fitC {f : List Node} {c : Change} (h : CanCh f c) : FitC c := by
  cases h with
  | mk n hn h12 => exact ⟨by simp [mkCh, c0], hn, by simp [mkCh, c0], by simp [mkCh, c0]⟩
  | ins x p i hx hp i0 i1 hp0 => exact ⟨by simp [inCh, c0], fit0, by simp [inCh, c0], by simp [inCh, c0]⟩
  | dat h off cnt v hh hd o0 c0' oc hv ho => exact ⟨by show v.length ≤ _; omega, fit0, by simp [daCh, c0], by simp [daCh, c0]⟩
  | spl a b c => exact ⟨by simp [splitCh, c0], fit0, by simp [splitCh, c0], by simp [splitCh, c0]⟩
  | tree a b c d => exact ⟨by simp [treeCh, c0], fit0, by simp [treeCh], by simp [treeCh, c0]⟩
theorem qlu (f : List Node) (hf : Fit f) : PureC Tryz.prog 54 [fav f] (actA (pen0 f)) := by
  have c1 := qm3 f hf
  refine yp tabs Tryz.func54 6 [.cell 2 87] rfl rfl rfl rfl rfl ?_; intro w0 X
  (repeat' (first | ((with_reducible show AL _ _ _ _ _); first | (refine yf tabs rfl ?_; try dsimp only [len, List.nil_append, List.cons_append]) | refine AL.op rfl (yd rfl rfl rfl rfl c1 rfl) ?_ | refine yn ?_) | refine ym ?_ | refine ya ?_ | refine yb ?_ | refine yg ?_ | refine yo ?_ | refine yc ?_))
  exact RQ.fin rfl rfl rfl
theorem qo2 (p : PS) (c : Change) (hp : InvP p) (hL : p.L.length ≤ 1000) (hc : p.why = 0 → CanCh p.F c) : PureC Tryz.prog 89 [actA p, c.av] (actA (doS p c).1) := by
  by_cases h0 : p.why = 0
  · have hcc := hc h0
    have c1 := qlr p.F c hp.fit hp.right hp.pos hcc hcc.fitC
    have c2 := qe0 c hcc.fitC
    obtain ⟨F, L, why⟩ := p
    simp only at h0 c1 hL
    subst h0
    have e : (doS ⟨F, L, 0⟩ c).1 = if (doneG F c).2 ≠ 0 then ⟨F, L, (doneG F c).2⟩ else ⟨(doneG F c).1, L ++ [c], 0⟩ := by
      unfold doS
      simp only [ne_eq, not_true_eq_false, if_false]
      split <;> rfl
    rw [e]
    clear e hc hcc hp
    obtain ⟨⟨g, w⟩, hgw⟩ : ∃ x, x = doneG F c := ⟨_, rfl⟩
    rw [← hgw] at c1 ⊢
    simp only at c1 ⊢
    clear hgw
    have hcl : (L.map Change.iv).length = L.length := List.length_map _
    by_cases hw : w = 0
    · subst hw
      rw [if_neg (by simp)]
      by_cases hl : L = []
      · refine yp tabs Tryz.func89 36 [.cell 4 87] rfl rfl rfl rfl rfl ?_; intro w0 X
        refine AW.reserve 58 36 rfl ?_
        refine AW.reserve 58 36 rfl ?_
        (repeat' (first | ((with_reducible show AL _ _ _ _ _); first | (refine yf tabs rfl ?_; try dsimp only [len, List.nil_append, List.cons_append]) | refine AL.op rfl (yd rfl rfl rfl rfl c1 rfl) ?_ | refine yn ?_) | ((with_reducible show DQ _ _ _ _ _ _); first | refine DQ.stepc (LS.lit0 tabs rfl rfl rfl rfl rfl rfl rfl) rfl rfl rfl rfl rfl ?_ | refine DQ.stepc (yck tabs rfl rfl rfl rfl rfl rfl rfl rfl rfl rfl (by rw [hl]; rfl)) rfl rfl rfl rfl rfl ?_ | refine DQ.stepc (yai rfl rfl rfl rfl rfl c2 rfl) rfl rfl rfl rfl rfl ?_ | refine DQ.stepc (ya9 1 tabs rfl rfl rfl rfl rfl rfl rfl rfl rfl rfl rfl rfl) rfl rfl rfl rfl rfl ?_ | refine DQ.stepc (LS.nocap_at 0 (ie := ti58) (sz := 36) (rows2 := [rowC c]) tabs rfl rfl rfl rfl rfl rfl (by decide) rfl rfl rfl (by simp) (fun s' hl => hl.srcOwn (by simp [Op.operands, Call.operands]) tabs rfl rfl (b := ⟨58, 36, [rowC c]⟩) rfl rfl rfl rfl (by simp [rowC, Change.iv, ti58]) (by simp [rowC, Change.iv, AV.cell])) (by simp [ti58]) (by simp)) rfl rfl rfl rfl rfl ?_ | refine DQ.stepc (LS.store (i := ti87) (v := .agg [.imm (.sl (g.map Node.iv)), .os 0 1, iav 0]) (ty := 87) (sz := 3) (rows := [ti87.zero]) (r := ti87.zero) tabs rfl rfl rfl rfl rfl rfl rfl rfl rfl rfl (Nat.le_of_ble_eq_true rfl) rfl) rfl rfl rfl rfl rfl ?_ | refine DQ.stepc (LS.val tabs rfl rfl rfl) rfl rfl rfl rfl rfl ?_ | refine DQ.stepc (yu rfl rfl) rfl rfl rfl rfl rfl ?_ | refine DQ.nilM (by kernel_rfl) ?_) | (exfalso; omega) | refine ym ?_ | refine ya ?_ | refine yb ?_ | refine yg ?_ | refine yi rfl ?_ | refine yh rfl ?_ | (refine yk rfl (fun hc => ?_) (fun hc => ?_) <;> (try simp only [hsx] at hc) <;> (try first | omega | contradiction | (simp [qa] at hc; done))) | refine yo ?_ | refine yc ?_ | refine yr mixed (by kernel_rfl) ?_))
        refine yap rfl (ybs (.cons (Fz.im rfl) (.cons (Fz.os (b := ⟨58, 36, [rowC c]⟩) (rows := (L ++ [c]).map Change.iv) rfl rfl ?_) (.cons (Fz.im rfl) .nil))))
        rw [hl]; rfl
      · refine yp tabs Tryz.func89 36 [.cell 4 87] rfl rfl rfl rfl rfl ?_; intro w0 X
        refine AW.reserve 58 36 rfl ?_
        refine AW.reserve 58 36 rfl ?_
        (repeat' (first | ((with_reducible show AL _ _ _ _ _); first | (refine yf tabs rfl ?_; try dsimp only [len, List.nil_append, List.cons_append]) | refine AL.op rfl (yd rfl rfl rfl rfl c1 rfl) ?_ | refine yn ?_) | ((with_reducible show DQ _ _ _ _ _ _); first | refine DQ.stepc (LS.lit0 tabs rfl rfl rfl rfl rfl rfl rfl) rfl rfl rfl rfl rfl ?_ | refine DQ.stepc (LS.nocap_imm 0 (rows := L.map Change.iv) (ie := ti58) tabs rfl rfl rfl rfl rfl rfl (by decide) rfl rfl rfl rfl rfl rfl (by simpa using hl) (fun r hr => by obtain ⟨q, _, rfl⟩ := List.mem_map.1 hr; rfl) (by simp [ti58]; omega) (by simp; omega)) rfl rfl rfl rfl rfl ?_ | refine DQ.stepc (yai rfl rfl rfl rfl rfl c2 rfl) rfl rfl rfl rfl rfl ?_ | refine DQ.stepc (ya9 1 tabs rfl rfl rfl rfl rfl rfl rfl rfl rfl rfl rfl rfl) rfl rfl rfl rfl rfl ?_ | refine DQ.stepc (yaw (ie := ti58) (ty := 58) (sz := 36) (rows := (L.map Change.iv).map (·.map .imm)) (rows2 := [rowC c]) tabs rfl rfl rfl rfl rfl rfl rfl rfl (by simp) rfl rfl (fun s' hl => hl.srcOwn (by simp [Op.operands, Call.operands]) tabs rfl rfl (b := ⟨58, 36, [rowC c]⟩) rfl rfl rfl rfl (by simp [rowC, Change.iv, ti58]) (by simp [rowC, Change.iv, AV.cell])) (by simp [ti58]; omega) (by simp; omega)) rfl rfl rfl rfl rfl ?_ | refine DQ.stepc (LS.store (i := ti87) (v := .agg [.imm (.sl (g.map Node.iv)), .os 0 ((L.map Change.iv).length + 1), iav 0]) (ty := 87) (sz := 3) (rows := [ti87.zero]) (r := ti87.zero) tabs rfl rfl rfl rfl rfl rfl rfl rfl rfl rfl (Nat.le_of_ble_eq_true rfl) rfl) rfl rfl rfl rfl rfl ?_ | refine DQ.stepc (LS.val tabs rfl rfl rfl) rfl rfl rfl rfl rfl ?_ | refine DQ.stepc (yu rfl rfl) rfl rfl rfl rfl rfl ?_ | refine DQ.nilM (by kernel_rfl) ?_) | (exfalso; omega) | refine ym ?_ | refine ya ?_ | refine yb ?_ | refine yg ?_ | refine yi rfl ?_ | refine yh rfl ?_ | (refine yk rfl (fun hc => ?_) (fun hc => ?_) <;> (try simp only [hsx] at hc) <;> (try first | omega | contradiction | (simp [qa] at hc; done))) | refine yo ?_ | refine yc ?_ | refine yr mixed (by kernel_rfl) ?_))
        refine yap rfl (ybs (.cons (Fz.im rfl) (.cons (Fz.os (b := ⟨58, 36, (L.map Change.iv).map (·.map .imm) ++ [rowC c]⟩) (rows := (L ++ [c]).map Change.iv) rfl ?_ ?_) (.cons (Fz.im rfl) .nil))))
        · simp
        · simp [rowC]
    · rw [if_pos (by omega)]
      refine yp tabs Tryz.func89 36 [.cell 4 87] rfl rfl rfl rfl rfl ?_; intro w0 X
      (repeat' (first | ((with_reducible show AL _ _ _ _ _); first | (refine yf tabs rfl ?_; try dsimp only [len, List.nil_append, List.cons_append]) | refine AL.op rfl (yd rfl rfl rfl rfl c1 rfl) ?_ | refine yn ?_) | ((with_reducible show DQ _ _ _ _ _ _); first | refine DQ.stepc (LS.val tabs rfl rfl rfl) rfl rfl rfl rfl rfl ?_ | refine DQ.stepc (yu rfl rfl) rfl rfl rfl rfl rfl ?_ | refine DQ.nilM (by kernel_rfl) ?_) | (exfalso; omega) | refine ym ?_ | refine ya ?_ | refine yb ?_ | refine yg ?_ | refine yi rfl ?_ | refine yh rfl ?_ | (refine yk rfl (fun hc => ?_) (fun hc => ?_) <;> (try simp only [hsx] at hc) <;> (try first | omega | contradiction | (simp [qa] at hc; done))) | refine yo ?_ | refine yc ?_ | refine yr mixed (by kernel_rfl) ?_))
      exact RQ.fin rfl rfl rfl
  · have e : (doS p c).1 = p := by unfold doS; rw [if_pos h0]
    rw [e]
    refine yp tabs Tryz.func89 36 [.cell 4 87] rfl rfl rfl rfl rfl ?_; intro w0 X
    (repeat' (first | ((with_reducible show AL _ _ _ _ _); first | (refine yf tabs rfl ?_; try dsimp only [len, List.nil_append, List.cons_append]) | refine yn ?_) | ((with_reducible show DQ _ _ _ _ _ _); first | refine DQ.stepc (LS.val tabs rfl rfl rfl) rfl rfl rfl rfl rfl ?_ | refine DQ.stepc (yu rfl rfl) rfl rfl rfl rfl rfl ?_ | refine DQ.nilM (by kernel_rfl) ?_) | (exfalso; omega) | refine ym ?_ | refine ya ?_ | refine yb ?_ | refine yg ?_ | refine yi rfl ?_ | refine yh rfl ?_ | (refine yk rfl (fun hc => ?_) (fun hc => ?_) <;> (try simp only [hsx] at hc) <;> (try first | omega | contradiction | (simp [qa] at hc; done))) | refine yo ?_ | refine yc ?_ | refine yr mixed (by kernel_rfl) ?_))
    exact RQ.fin rfl rfl rfl
noncomputable def endA (p : PS) : AV := if p.why ≠ 0 then .tup [fav [], .imm (.sl []), iav p.why] else .tup [fav p.F, .imm (.sl (p.L.map Change.iv)), iav 0]
theorem qon (p : PS) : PureC Tryz.prog 55 [actA p] (endA p) := by
  unfold endA
  by_cases h0 : p.why = 0
  · rw [if_neg (by omega)]
    refine yp tabs Tryz.func55 15 [.cell 2 24, .tmp 3, .tmp 4] rfl rfl rfl rfl rfl ?_; intro w0 X
    (repeat' (first | ((with_reducible show AL _ _ _ _ _); first | (refine yf tabs rfl ?_; try dsimp only [len, List.nil_append, List.cons_append]) | refine yn ?_) | ((with_reducible show DQ _ _ _ _ _ _); first | refine DQ.stepc (LS.store (i := ti24) (v := fav p.F) (ty := 24) (sz := 1) (rows := [ti24.zero]) (r := ti24.zero) tabs rfl rfl rfl rfl rfl rfl rfl rfl rfl rfl (Nat.le_of_ble_eq_true rfl) rfl) rfl rfl rfl rfl rfl ?_ | refine DQ.stepc (LS.val tabs rfl rfl rfl) rfl rfl rfl rfl rfl ?_ | refine DQ.stepc (yu rfl rfl) rfl rfl rfl rfl rfl ?_ | refine DQ.nilM (by kernel_rfl) ?_) | (exfalso; omega) | refine ym ?_ | refine ya ?_ | refine yb ?_ | refine yg ?_ | refine yi rfl ?_ | refine yh rfl ?_ | (refine yk rfl (fun hc => ?_) (fun hc => ?_) <;> (try simp only [hsx] at hc) <;> (try first | omega | contradiction | (simp [qa] at hc; done))) | refine yo ?_ | refine yc ?_ | refine yr mixed (by kernel_rfl) ?_))
    exact RQ.fin rfl rfl rfl
  · rw [if_pos h0]
    refine yp tabs Tryz.func55 15 [.cell 2 24, .tmp 3, .tmp 4] rfl rfl rfl rfl rfl ?_; intro w0 X
    (repeat' (first | ((with_reducible show AL _ _ _ _ _); first | (refine yf tabs rfl ?_; try dsimp only [len, List.nil_append, List.cons_append]) | refine yn ?_) | ((with_reducible show DQ _ _ _ _ _ _); first | refine DQ.stepc (LS.store (i := ti24) (v := .agg [.nils]) (ty := 24) (sz := 1) (rows := [ti24.zero]) (r := ti24.zero) tabs rfl rfl rfl rfl rfl rfl rfl rfl rfl rfl (Nat.le_of_ble_eq_true rfl) rfl) rfl rfl rfl rfl rfl ?_ | refine DQ.stepc (LS.val tabs rfl rfl rfl) rfl rfl rfl rfl rfl ?_ | refine DQ.stepc (yu rfl rfl) rfl rfl rfl rfl rfl ?_ | refine DQ.nilM (by kernel_rfl) ?_) | (exfalso; omega) | refine ym ?_ | refine ya ?_ | refine yb ?_ | refine yg ?_ | refine yi rfl ?_ | refine yh rfl ?_ | (refine yk rfl (fun hc => ?_) (fun hc => ?_) <;> (try simp only [hsx] at hc) <;> (try first | omega | contradiction | (simp [qa] at hc; done))) | refine yo ?_ | refine yc ?_ | refine yr mixed (by kernel_rfl) ?_))
    exact RQ.fin rfl rfl rfl
theorem PureC.cv {P : Program} {f : FuncId} {aa ab : List AV} {r : AV} (h : PureC P f aa r) (e : ab.map A.cv = aa) : PureC P f ab r :=
  ⟨h.1, fun W X xs hX hx => h.2 W X xs hX (by rw [← e]; exact qia hx)⟩
noncomputable def rputS (p : PS) (h off cnt : Int) (v : List Int) : PS := if p.why ≠ 0 then p else putS p h off cnt v
theorem qh4 (l : List Int) (off cnt : Int) (h0 : 0 ≤ off) (h2 : 0 ≤ cnt) (h : off ≤ l.length) : ((subP l off cnt).length : Int) = spTo l.length off cnt - off := by
  have hs0 : off ≤ spTo l.length off cnt := by unfold spTo; omega
  have hs1 : spTo l.length off cnt ≤ l.length := by unfold spTo; omega
  unfold subP
  simp only [List.length_drop, List.length_take]
  omega
theorem qgn (p : PS) (h off cnt : Int) (v : List Int) (hp : InvP p) (hL : p.L.length ≤ 1000) (h0 : 0 ≤ off) (h1 : off < 4294967296) (h2 : 0 ≤ cnt) (h3 : cnt < 4294967296) (hv : v.length ≤ 1000000000) (hc : p.why = 0 → (replP (nodeAt p.F h).data off cnt v).2 = 0 → CanCh p.F (putC p.F h off cnt v)) : PureC Tryz.prog 64 [actA p, iav h, u32 off, u32 cnt, .imm (.sl (v.map u16))] (actA (rputS p h off cnt v)) := by
  by_cases hw : p.why = 0
  · have cN := qa6 p.F h hp.fit.len
    have hdl := (hp.fit.at h).data
    have cS := qod (nodeAt p.F h).data off cnt h0 h1 h2 h3 hdl
    have cD : (replP (nodeAt p.F h).data off cnt v).2 = 0 → PureC Tryz.prog 89 [actA p, (putC p.F h off cnt v).av] (actA (doS p (putC p.F h off cnt v)).1) := fun hre => qo2 p _ hp hL fun hw' => hc hw' hre
    rw [show rputS p h off cnt v = putS p h off cnt v by unfold rputS; rw [if_neg (by omega)]]
    unfold putS
    have hsl := qh4 (nodeAt p.F h).data off cnt h0 h2
    have hrp : replP (nodeAt p.F h).data off cnt v = if ((nodeAt p.F h).data.length : Int) < off then ([], 14) else if 16384 < ((nodeAt p.F h).data.length : Int) - (spTo (nodeAt p.F h).data.length off cnt - off) + v.length then ([], 4) else (replL (nodeAt p.F h).data off (spTo (nodeAt p.F h).data.length off cnt) v, 0) := rfl
    have hpc : putC p.F h off cnt v = daCh h off (((nodeAt p.F h).data.length : Int) + v.length - (replP (nodeAt p.F h).data off cnt v).1.length) v := qck _ _ _ _ _
    have hok := fun hre => (qe4 (v := v) h0 h2 hre : off ≤ (nodeAt p.F h).data.length ∧ _)
    obtain ⟨n, hn⟩ : ∃ n, n = nodeAt p.F h := ⟨_, rfl⟩
    rw [← hn] at cN cS hsl hrp hpc hdl cD hok ⊢
    have hml : (n.data.map u16).length = n.data.length := List.length_map _
    have hvl : (v.map u16).length = v.length := List.length_map _
    have hbl : ((subP n.data off cnt).map u16).length = (subP n.data off cnt).length := List.length_map _
    by_cases ho : off ≤ n.data.length
    · rw [if_pos ho, if_pos ho] at cS
      have hsl := hsl ho
      by_cases h16 : 16384 < (n.data.length : Int) - (spTo n.data.length off cnt - off) + v.length
      · rw [show replP n.data off cnt v = ([], 4) by rw [hrp, if_neg (by omega), if_pos h16], if_pos (by simp)]
        rw [show refP p ([], (4 : Int)).2 = ⟨p.F, p.L, 4⟩ by unfold refP; rw [if_pos hw]]
        refine yp tabs Tryz.func64 62 [.cell 10 87] rfl rfl rfl rfl rfl ?_; intro w0 X
        (repeat' (first | ((with_reducible show AL _ _ _ _ _); first | (refine yf tabs rfl ?_; try dsimp only [len, List.nil_append, List.cons_append]) | refine AL.op rfl (yd rfl rfl rfl rfl cN rfl) ?_ | refine AL.op rfl (yd rfl rfl rfl rfl cS rfl) ?_ | (refine AL.op rfl (yj rfl rfl rfl rfl rfl (by omega) (by omega)) ?_) | refine yn ?_ | (refine yq rfl rfl rfl (fun hc => ?_) (fun hc => ?_) <;> (fail_if_success (exact absurd hc (by decide))) <;> (try simp only [hsx] at hc) <;> (try first | omega | contradiction | (simp [qa] at hc; done))) | (refine AL.op rfl (yj rfl rfl rfl rfl rfl (by omega) (by omega)) ?_)) | (exfalso; omega) | refine ym ?_ | refine ya ?_ | refine yb ?_ | refine yg ?_ | refine yi rfl ?_ | refine yh rfl ?_ | (refine yk rfl (fun hc => ?_) (fun hc => ?_) <;> (try simp only [hsx] at hc) <;> (try first | omega | contradiction | (simp [qa] at hc; done))) | refine yo ?_ | refine yc ?_))
        exact RQ.fin rfl rfl rfl
      · have e2 : (replP n.data off cnt v).2 = 0 := by rw [hrp, if_neg (by omega), if_neg h16]
        have cD := cD e2
        rw [if_neg (by omega)]
        have ec : putC p.F h off cnt v = daCh h off ((subP n.data off cnt).map u16).length v := by
          rw [hpc, (hok e2).2.2.1]
          congr 1
          unfold replL
          simp only [List.length_append, List.length_take, List.length_drop]
          have := (hok e2).2.2.2
          omega
        rw [ec] at cD ⊢
        refine yp tabs Tryz.func64 62 [.cell 10 87] rfl rfl rfl rfl rfl ?_; intro w0 X
        (repeat' (first | ((with_reducible show AL _ _ _ _ _); first | refine AL.op rfl (ybg tabs rfl rfl rfl rfl rfl rfl (by omega) (by omega)) ?_ | (refine yf tabs rfl ?_; try dsimp only [len, List.nil_append, List.cons_append]) | refine AL.op rfl (yd rfl rfl rfl rfl cN rfl) ?_ | refine AL.op rfl (yd rfl rfl rfl rfl cS rfl) ?_ | (refine AL.op rfl (yj rfl rfl rfl rfl rfl (by omega) (by omega)) ?_) | refine AL.op rfl (ybu rfl rfl rfl rfl rfl cD rfl) ?_ | refine yn ?_ | (refine yq rfl rfl rfl (fun hc => ?_) (fun hc => ?_) <;> (fail_if_success (exact absurd hc (by decide))) <;> (try simp only [hsx] at hc) <;> (try first | omega | contradiction | (simp [qa] at hc; done))) | (refine AL.op rfl (yj rfl rfl rfl rfl rfl (by omega) (by omega)) ?_)) | (exfalso; omega) | refine ym ?_ | refine ya ?_ | refine yb ?_ | refine yg ?_ | refine yi rfl ?_ | refine yh rfl ?_ | (refine yk rfl (fun hc => ?_) (fun hc => ?_) <;> (try simp only [hsx] at hc) <;> (try first | omega | contradiction | (simp [qa] at hc; done))) | refine yo ?_ | refine yc ?_))
        exact RQ.fin rfl rfl rfl
    · rw [if_neg ho, if_neg ho] at cS
      rw [show replP n.data off cnt v = ([], 14) by rw [hrp, if_pos (by omega)], if_pos (by simp)]
      rw [show refP p ([], (14 : Int)).2 = ⟨p.F, p.L, 14⟩ by unfold refP; rw [if_pos hw]]
      refine yp tabs Tryz.func64 62 [.cell 10 87] rfl rfl rfl rfl rfl ?_; intro w0 X
      (repeat' (first | ((with_reducible show AL _ _ _ _ _); first | (refine yf tabs rfl ?_; try dsimp only [len, List.nil_append, List.cons_append]) | refine AL.op rfl (yd rfl rfl rfl rfl cN rfl) ?_ | refine AL.op rfl (yd rfl rfl rfl rfl cS rfl) ?_ | refine yn ?_ | (refine yq rfl rfl rfl (fun hc => ?_) (fun hc => ?_) <;> (fail_if_success (exact absurd hc (by decide))) <;> (try simp only [hsx] at hc) <;> (try first | omega | contradiction | (simp [qa] at hc; done))) | (refine AL.op rfl (yj rfl rfl rfl rfl rfl (by omega) (by omega)) ?_)) | (exfalso; omega) | refine ym ?_ | refine ya ?_ | refine yb ?_ | refine yg ?_ | refine yi rfl ?_ | refine yh rfl ?_ | (refine yk rfl (fun hc => ?_) (fun hc => ?_) <;> (try simp only [hsx] at hc) <;> (try first | omega | contradiction | (simp [qa] at hc; done))) | refine yo ?_ | refine yc ?_))
      exact RQ.fin rfl rfl rfl
  · rw [show rputS p h off cnt v = p by unfold rputS; rw [if_pos hw]]
    refine yp tabs Tryz.func64 62 [.cell 10 87] rfl rfl rfl rfl rfl ?_; intro w0 X
    (repeat' (first | ((with_reducible show AL _ _ _ _ _); first | (refine yf tabs rfl ?_; try dsimp only [len, List.nil_append, List.cons_append]) | refine yn ?_ | (refine yq rfl rfl rfl (fun hc => ?_) (fun hc => ?_) <;> (fail_if_success (exact absurd hc (by decide))) <;> (try simp only [hsx] at hc) <;> (try first | omega | contradiction | (simp [qa] at hc; done))) | (refine AL.op rfl (yj rfl rfl rfl rfl rfl (by omega) (by omega)) ?_)) | (exfalso; omega) | refine ym ?_ | refine ya ?_ | refine yb ?_ | refine yg ?_ | refine yi rfl ?_ | refine yh rfl ?_ | (refine yk rfl (fun hc => ?_) (fun hc => ?_) <;> (try simp only [hsx] at hc) <;> (try first | omega | contradiction | (simp [qa] at hc; done))) | refine yo ?_ | refine yc ?_))
    exact RQ.fin rfl rfl rfl
section
variable {f : List Node} {h off : Int} (hf : Fit f) (hr : rightP f) (hh : inR f h) (ht : textB (nodeAt f h).kind) (h0 : 0 ≤ off) (ho : off ≤ (nodeAt f h).data.length)
include hf hr hh ht h0 ho
end
set_option maxHeartbeats 4000000
open Go.RowKit
set_option linter.unusedVariables false
set_option linter.unusedSimpArgs false
set_option maxRecDepth 100000
set_option maxHeartbeats 4000000
open Go.RowKit
set_option linter.unusedVariables false
set_option linter.unusedSimpArgs false
set_option maxRecDepth 100000
set_option maxHeartbeats 4000000
theorem qda (e : Int) (q : PS) : ∃ (F : List Node) (L : List Change) (w : Int), ansP e q = .tup [fav F, .imm (.sl (L.map Change.iv)), iav w] := by
  unfold ansP
  split
  · exact ⟨[], [], _, rfl⟩
  · split
    · exact ⟨[], [], _, rfl⟩
    · exact ⟨_, _, _, rfl⟩
theorem qlv (q : PS) : ∃ (F : List Node) (L : List Change) (w : Int), endA q = .tup [fav F, .imm (.sl (L.map Change.iv)), iav w] := by
  unfold endA
  split
  · exact ⟨[], [], _, rfl⟩
  · exact ⟨_, _, _, rfl⟩
theorem qbm (f : List Node) (h off cnt : Int) (v : List Int) (hf : Fit f) (h0 : 0 ≤ off) (h1 : off < 4294967296) (h2 : 0 ≤ cnt) (h3 : cnt < 4294967296) (hv : v.length ≤ 1000000000) : PureC Tryz.prog 20 [fav f, iav h, u32 off, u32 cnt, .imm (.sl (v.map u16))] (replA f h off cnt v) := by
  have c1 := qdu f h hf
  unfold replA
  by_cases he : cfP f h false = 0
  · rw [he] at c1 ⊢
    obtain ⟨hr, hh, _, hd⟩ := qaw he
    have c2 := qlu f hf
    have c3 := qgn (pen0 f) h off cnt v (inv0 hf hr hh) (by simp [pen0]) h0 h1 h2 h3 hv (fun _ hre => (qcy hf hr hh hd h0 h2 hre).1)
    rw [show rputS (pen0 f) h off cnt v = rpQ f h off cnt v by unfold rputS; rw [if_neg (by simp [pen0])]; rfl] at c3
    have c4 := qon (rpQ f h off cnt v)
    rw [show ansP 0 (rpQ f h off cnt v) = endA (rpQ f h off cnt v) by unfold ansP endA; rw [if_neg (by simp)]]
    obtain ⟨F, L, w, e⟩ := qlv (rpQ f h off cnt v)
    rw [e] at c4 ⊢
    refine yp tabs Tryz.func20 32 [.cell 10 24, .tmp 11, .tmp 12] rfl rfl rfl rfl rfl ?_; intro w0 X
    (repeat' (first | ((with_reducible show AL _ _ _ _ _); first | (refine yf tabs rfl ?_; try dsimp only [len, List.nil_append, List.cons_append]) | refine AL.op rfl (yd rfl rfl rfl rfl c1 rfl) ?_ | refine AL.op rfl (yd rfl rfl rfl rfl c2 rfl) ?_ | refine AL.op rfl (yd rfl rfl rfl rfl c3 rfl) ?_ | refine AL.op rfl (yd rfl rfl rfl rfl c4 rfl) ?_ | refine yn ?_) | (exfalso; omega) | refine ym ?_ | refine ya ?_ | refine yb ?_ | refine yg ?_ | refine yi rfl ?_ | refine yh rfl ?_ | (refine yk rfl (fun hc => ?_) (fun hc => ?_) <;> (try simp only [hsx] at hc) <;> (try first | omega | contradiction | (simp [qa] at hc; done))) | refine yo ?_ | refine yc ?_))
    exact RQ.fin rfl rfl rfl
  · unfold ansP
    rw [if_pos he]
    refine yp tabs Tryz.func20 32 [.cell 10 24, .tmp 11, .tmp 12] rfl rfl rfl rfl rfl ?_; intro w0 X
    (repeat' (first | ((with_reducible show AL _ _ _ _ _); first | (refine yf tabs rfl ?_; try dsimp only [len, List.nil_append, List.cons_append]) | refine AL.op rfl (yd rfl rfl rfl rfl c1 rfl) ?_ | refine yn ?_) | (exfalso; omega) | refine ym ?_ | refine ya ?_ | refine yb ?_ | refine yg ?_ | refine yi rfl ?_ | refine yh rfl ?_ | (refine yk rfl (fun hc => ?_) (fun hc => ?_) <;> (try simp only [hsx] at hc) <;> (try first | omega | contradiction | (simp [qa] at hc; done))) | refine yo ?_ | refine yc ?_))
    exact RQ.fin rfl rfl rfl
theorem qj9 (f : List Node) (h off : Int) (v : List Int) (hf : Fit f) (h0 : 0 ≤ off) (h1 : off < 4294967296) (hv : v.length ≤ 1000000000) : PureC Tryz.prog 22 [fav f, iav h, u32 off, .imm (.sl (v.map u16))] (replA f h off 0 v) := by
  have c1 := qbm f h off 0 v hf h0 h1 (by omega) (by omega) hv
  unfold replA at c1 ⊢
  obtain ⟨F, L, w, e⟩ := qda (cfP f h false) (rpQ f h off 0 v)
  rw [e] at c1 ⊢
  refine yp tabs Tryz.func22 19 [.cell 8 24, .tmp 9, .tmp 10] rfl rfl rfl rfl rfl ?_; intro w0 X
  (repeat' (first | ((with_reducible show AL _ _ _ _ _); first | (refine yf tabs rfl ?_; try dsimp only [len, List.nil_append, List.cons_append]) | refine AL.op rfl (yd rfl rfl rfl rfl c1 rfl) ?_ | refine yn ?_) | refine ym ?_ | refine ya ?_ | refine yb ?_ | refine yg ?_ | refine yo ?_ | refine yc ?_))
  exact RQ.fin rfl rfl rfl
theorem qka (f : List Node) (h off cnt : Int) (hf : Fit f) (h0 : 0 ≤ off) (h1 : off < 4294967296) (h2 : 0 ≤ cnt) (h3 : cnt < 4294967296) : PureC Tryz.prog 24 [fav f, iav h, u32 off, u32 cnt] (replA f h off cnt []) := by
  have c1 := qbm f h off cnt [] hf h0 h1 h2 h3 (by simp)
  unfold replA at c1 ⊢
  obtain ⟨F, L, w, e⟩ := qda (cfP f h false) (rpQ f h off cnt [])
  rw [e] at c1 ⊢
  have c2 := PureC.cv (ab := [fav f, iav h, u32 off, u32 cnt, .nils]) c1 rfl
  refine yp tabs Tryz.func24 19 [.cell 8 24, .tmp 9, .tmp 10] rfl rfl rfl rfl rfl ?_; intro w0 X
  (repeat' (first | ((with_reducible show AL _ _ _ _ _); first | (refine yf tabs rfl ?_; try dsimp only [len, List.nil_append, List.cons_append]) | refine AL.op rfl (ybu rfl rfl rfl rfl rfl c1 rfl) ?_ | refine yn ?_) | refine ym ?_ | refine ya ?_ | refine yb ?_ | refine yg ?_ | refine yo ?_ | refine yc ?_))
  exact RQ.fin rfl rfl rfl
theorem qoo (f : List Node) (h : Int) (v : List Int) (hf : Fit f) (hv : v.length ≤ 1000000000) : PureC Tryz.prog 28 [fav f, iav h, .imm (.sl (v.map u16))] (replA f h 0 4294967295 v) := by
  have c1 := qbm f h 0 4294967295 v hf (by omega) (by omega) (by omega) (by omega) hv
  unfold replA at c1 ⊢
  obtain ⟨F, L, w, e⟩ := qda (cfP f h false) (rpQ f h 0 4294967295 v)
  rw [e] at c1 ⊢
  refine yp tabs Tryz.func28 16 [.cell 6 24, .tmp 7, .tmp 8] rfl rfl rfl rfl rfl ?_; intro w0 X
  (repeat' (first | ((with_reducible show AL _ _ _ _ _); first | (refine yf tabs rfl ?_; try dsimp only [len, List.nil_append, List.cons_append]) | refine AL.op rfl (yd rfl rfl rfl rfl c1 rfl) ?_ | refine yn ?_) | refine ym ?_ | refine ya ?_ | refine yb ?_ | refine yg ?_ | refine yo ?_ | refine yc ?_))
  exact RQ.fin rfl rfl rfl
theorem qkb (f : List Node) (h : Int) (hf : Fit f) : PureC Tryz.prog 33 [fav f, iav h] (.tup [iav (if cfP f h false = 0 then ((nodeAt f h).data.length : Int) else 0), iav (cfP f h false)]) := by
  have c1 := qdu f h hf
  have c2 := qa6 f h hf.len
  obtain ⟨n, hn⟩ : ∃ n, n = nodeAt f h := ⟨_, rfl⟩
  rw [← hn] at c2 ⊢
  have hml : (n.data.map u16).length = n.data.length := List.length_map _
  rw [← hml]
  obtain ⟨e, he⟩ : ∃ e, e = cfP f h false := ⟨_, rfl⟩
  rw [← he] at c1 ⊢
  refine yp tabs Tryz.func33 24 [.tmp 4, .tmp 5] rfl rfl rfl rfl rfl ?_; intro w0 X
  (repeat' (first | ((with_reducible show AL _ _ _ _ _); first | (refine yf tabs rfl ?_; try dsimp only [len, List.nil_append, List.cons_append]) | refine AL.op rfl (yd rfl rfl rfl rfl c1 rfl) ?_ | refine AL.op rfl (yd rfl rfl rfl rfl c2 rfl) ?_ | refine yn ?_) | refine ym ?_ | refine ya ?_ | refine yb ?_ | refine yg ?_ | refine yi rfl ?_ | refine yh rfl ?_ | (refine yk rfl (fun hc => ?_) (fun hc => ?_) <;> (try simp only [hsx] at hc) <;> (try first | omega | contradiction | (simp [qa] at hc; done))) | refine yo ?_ | refine yc ?_))
  · rw [if_neg (by assumption)]; exact RQ.fin rfl rfl rfl
  · have hc : e = 0 := by omega
    subst hc
    exact RQ.fin rfl rfl rfl
theorem qkc (f : List Node) (h : Int) (v : List Int) (hf : Fit f) (hv : v.length ≤ 1000000000) : PureC Tryz.prog 26 [fav f, iav h, .imm (.sl (v.map u16))] (replA f h (if cfP f h false = 0 then ((nodeAt f h).data.length : Int) else 0) 0 v) := by
  have c0 := qkb f h hf
  have hdl := (hf.at h).data
  obtain ⟨n, hn⟩ : ∃ n : Int, n = (if cfP f h false = 0 then ((nodeAt f h).data.length : Int) else 0) := ⟨_, rfl⟩
  have n0 : 0 ≤ n := by rw [hn]; split <;> omega
  have n1 : n ≤ 1000000000 := by rw [hn]; split <;> omega
  rw [← hn] at c0 ⊢
  have c1 := qbm f h n 0 v hf n0 (by omega) (by omega) (by omega) hv
  unfold replA at c1 ⊢
  obtain ⟨F, L, w, e⟩ := qda (cfP f h false) (rpQ f h n 0 v)
  rw [e] at c1 ⊢
  refine yp tabs Tryz.func26 26 [.cell 6 24, .tmp 7, .tmp 8] rfl rfl rfl rfl rfl ?_; intro w0 X
  (repeat' (first | ((with_reducible show AL _ _ _ _ _); first | refine AL.op rfl (yaz tabs rfl rfl rfl rfl rfl rfl (by omega) (by omega)) ?_ | (refine yf tabs rfl ?_; try dsimp only [len, List.nil_append, List.cons_append]) | refine AL.op rfl (yd rfl rfl rfl rfl c0 rfl) ?_ | refine AL.op rfl (yd rfl rfl rfl rfl c1 rfl) ?_ | refine yn ?_) | refine ym ?_ | refine ya ?_ | refine yb ?_ | refine yg ?_ | refine yo ?_ | refine yc ?_))
  exact RQ.fin rfl rfl rfl
end Go.Proofs.YtmhejcnaanocpaaGreat.A
