/- Contracts: package forest, there, pair, tree: changes that turn nothing. -/
import Derived.Test.YtmhejcnaanocpaaGreatXRSGrpAU
import Derived.Test.YtmhejcnaanocpaaGreatXRSGrpAR
import Derived.Laws.BitsLemmas
import Derived.Laws.Bits64
import Derived.Test.YtmhejcnaanocpaaGreatXRSGrpAP
namespace Go.Proofs.YtmhejcnaanocpaaGreat.A
set_option linter.unusedVariables false
set_option linter.unusedSimpArgs false
set_option maxRecDepth 100000
set_option maxHeartbeats 4000000
theorem qn9 (f : List Node) (c : Change) (hl : f.length ≤ 1000000000) (ha : c.added.length ≤ 1000000000) (hr : c.removed.length ≤ 1000000000) : GenC Tryz.prog 130 [⟨24, 1, [[.os 1 f.length]]⟩, ⟨44, 16, f.map rowS⟩] [.ptr 0 1 0 0, c.av] (bav (dec (treeP f c))) [⟨24, 1, [[.os 1 f.length]]⟩, ⟨44, 16, f.map rowS⟩] := by
  have H1 := thereO f [c.parent] hl (by simp)
  rw [show ([c.parent].all fun h => inB f h) = inB f c.parent by simp] at H1
  obtain ⟨b1, e1⟩ : ∃ b, b = inB f c.parent := ⟨_, rfl⟩
  rw [← e1] at H1
  have H4 := thereO f [c.prev] hl (by simp)
  rw [show ([c.prev].all fun h => inB f h) = inB f c.prev by simp] at H4
  obtain ⟨b4, e4⟩ : ∃ b, b = inB f c.prev := ⟨_, rfl⟩
  rw [← e4] at H4
  have H5 := thereO f [c.next] hl (by simp)
  rw [show ([c.next].all fun h => inB f h) = inB f c.next by simp] at H5
  obtain ⟨b5, e5⟩ : ∃ b, b = inB f c.next := ⟨_, rfl⟩
  rw [← e5] at H5
  have H2 := thereI f c.added hl ha
  obtain ⟨b2, e2⟩ : ∃ b, b = (c.added.all fun h => inB f h) := ⟨_, rfl⟩
  rw [← e2] at H2
  have H3 := thereI f c.removed hl hr
  obtain ⟨b3, e3⟩ : ∃ b, b = (c.removed.all fun h => inB f h) := ⟨_, rfl⟩
  rw [← e3] at H3
  have hP : treeP f c ↔ b1 = true ∧ b2 = true ∧ b3 = true ∧ (c.prev = 0 ∨ b4 = true) ∧ (c.next = 0 ∨ b5 = true) := by rw [e1, e2, e3, e4, e5]; rfl
  rw [propext hP]
  refine yah tabs Tryz.func130 47 [.tmp 4] rfl rfl rfl rfl rfl ?_; intro w0 X γ κ
  (repeat' (first | ((with_reducible show AL _ _ _ _ _); first | (refine yf tabs rfl ?_; try dsimp only [len, List.nil_append, List.cons_append]) | (refine yz [0, 1, 3] 4 rfl rfl rfl rfl rfl (caps := []) rfl H1 rfl (by simp only [List.map_cons, List.map_nil, qf (k := 0) (rho0 rfl) (qb f 0), qn]; rfl) rfl rfl (by simp only [qax]; exact ⟨rfl, qb _ _, qbk _ _⟩) rfl (by simp only [qax]; exact ⟨rfl, qb _ _, qbk _ _⟩) rfl (hpA := [⟨24, 1, [[.os 1 f.length]]⟩, ⟨44, 16, f.map rowS⟩, ⟨3, 1, [c.parent].map cI⟩]) (by simp only [List.map_cons, List.map_nil, qf (k := 0) (rho0 rfl) (qb f 0), qn]; rfl) (r' := bav b1) rfl rfl ?_; try dsimp only [setAll, List.drop_succ_cons, List.drop_zero, List.drop_nil, List.set_cons_succ, List.set_cons_zero, List.cons_append, List.nil_append, List.append_nil, len]) | (refine yz [0, 1] 4 rfl rfl rfl rfl rfl (caps := []) rfl H2 rfl (by simp only [List.map_cons, List.map_nil, qf (k := 0) (rho0 rfl) (qb f 0), qn]; rfl) rfl rfl (by simp only [qax]; exact ⟨rfl, qb _ _⟩) rfl (by simp only [qax]; exact ⟨rfl, qb _ _⟩) rfl (hpA := [⟨24, 1, [[.os 1 f.length]]⟩, ⟨44, 16, f.map rowS⟩]) (by simp only [List.map_cons, List.map_nil, qf (k := 0) (rho0 rfl) (qb f 0), qn]; rfl) (r' := bav b2) rfl rfl ?_; try dsimp only [setAll, List.drop_succ_cons, List.drop_zero, List.drop_nil, List.set_cons_succ, List.set_cons_zero, List.cons_append, List.nil_append, List.append_nil, len]) | (refine yz [0, 1] 4 rfl rfl rfl rfl rfl (caps := []) rfl H3 rfl (by simp only [List.map_cons, List.map_nil, qf (k := 0) (rho0 rfl) (qb f 0), qn]; rfl) rfl rfl (by simp only [qax]; exact ⟨rfl, qb _ _⟩) rfl (by simp only [qax]; exact ⟨rfl, qb _ _⟩) rfl (hpA := [⟨24, 1, [[.os 1 f.length]]⟩, ⟨44, 16, f.map rowS⟩]) (by simp only [List.map_cons, List.map_nil, qf (k := 0) (rho0 rfl) (qb f 0), qn]; rfl) (r' := bav b3) rfl rfl ?_; try dsimp only [setAll, List.drop_succ_cons, List.drop_zero, List.drop_nil, List.set_cons_succ, List.set_cons_zero, List.cons_append, List.nil_append, List.append_nil, len]) | (refine yz [0, 1, 4] 5 rfl rfl rfl rfl rfl (caps := []) rfl H4 rfl (by simp only [List.map_cons, List.map_nil, qf (k := 0) (rho0 rfl) (qb f 0), qn]; rfl) rfl rfl (by simp only [qax]; exact ⟨rfl, qb _ _, qbk _ _⟩) rfl (by simp only [qax]; exact ⟨rfl, qb _ _, qbk _ _⟩) rfl (hpA := [⟨24, 1, [[.os 1 f.length]]⟩, ⟨44, 16, f.map rowS⟩, ⟨3, 1, [c.prev].map cI⟩]) (by simp only [List.map_cons, List.map_nil, qf (k := 0) (rho0 rfl) (qb f 0), qn]; rfl) (r' := bav b4) rfl rfl ?_; try dsimp only [setAll, List.drop_succ_cons, List.drop_zero, List.drop_nil, List.set_cons_succ, List.set_cons_zero, List.cons_append, List.nil_append, List.append_nil, len]) | (refine yz [0, 1, 4] 5 rfl rfl rfl rfl rfl (caps := []) rfl H5 rfl (by simp only [List.map_cons, List.map_nil, qf (k := 0) (rho0 rfl) (qb f 0), qn]; rfl) rfl rfl (by simp only [qax]; exact ⟨rfl, qb _ _, qbk _ _⟩) rfl (by simp only [qax]; exact ⟨rfl, qb _ _, qbk _ _⟩) rfl (hpA := [⟨24, 1, [[.os 1 f.length]]⟩, ⟨44, 16, f.map rowS⟩, ⟨3, 1, [c.next].map cI⟩]) (by simp only [List.map_cons, List.map_nil, qf (k := 0) (rho0 rfl) (qb f 0), qn]; rfl) (r' := bav b5) rfl rfl ?_; try dsimp only [setAll, List.drop_succ_cons, List.drop_zero, List.drop_nil, List.set_cons_succ, List.set_cons_zero, List.cons_append, List.nil_append, List.append_nil, len]) | (refine yz [0, 1, 5] 6 rfl rfl rfl rfl rfl (caps := []) rfl H5 rfl (by simp only [List.map_cons, List.map_nil, qf (k := 0) (rho0 rfl) (qb f 0), qn]; rfl) rfl rfl (by simp only [qax]; exact ⟨rfl, qb _ _, qbk _ _⟩) rfl (by simp only [qax]; exact ⟨rfl, qb _ _, qbk _ _⟩) rfl (hpA := [⟨24, 1, [[.os 1 f.length]]⟩, ⟨44, 16, f.map rowS⟩, ⟨3, 1, [c.next].map cI⟩]) (by simp only [List.map_cons, List.map_nil, qf (k := 0) (rho0 rfl) (qb f 0), qn]; rfl) (r' := bav b5) rfl rfl ?_; try dsimp only [setAll, List.drop_succ_cons, List.drop_zero, List.drop_nil, List.set_cons_succ, List.set_cons_zero, List.cons_append, List.nil_append, List.append_nil, len]) | refine yn ?_ | (refine yq rfl rfl rfl (fun hc => ?_) (fun hc => ?_) <;> (fail_if_success (exact absurd hc (by decide))) <;> (try simp only [hsx] at hc) <;> (try first | omega | contradiction | (simp [qa] at hc; done)))) | refine ym ?_ | refine ya ?_ | refine yb ?_ | refine yg ?_ | refine yi rfl ?_ | refine yh rfl ?_ | (refine yk rfl (fun hc => ?_) (fun hc => ?_) <;> (try simp only [hsx] at hc) <;> (try first | omega | contradiction | (simp [qa] at hc; done))) | refine yo ?_ | refine yc ?_))
  all_goals first | (exfalso; omega) | (refine yal 2 rfl (congrArg bav ?_) rfl rfl (by simp only [qax]; exact ⟨rfl, qb _ _⟩) (by simp [cxG]); clear H1 H2 H3 H4 H5 e1 e2 e3 e4 e5 hP; rw [Bool.eq_iff_iff, qc]; grind)
def plainPr (c : Change) : Change := { c0 with kind := c.kind, node := c.node, other := c.other, offset := c.offset }
def plainTr (c : Change) : Change := { c0 with kind := c.kind, parent := c.parent, added := c.added, removed := c.removed, prev := c.prev, next := c.next }
theorem qgi (c : Change) : PureC Tryz.prog 127 [c.av] (plainPr c).av := by
  refine yp tabs Tryz.func127 12 [.cell 2 58] rfl rfl rfl rfl rfl ?_; intro w0 X
  (repeat' (first | ((with_reducible show AL _ _ _ _ _); first | (refine yf tabs rfl ?_; try dsimp only [len, List.nil_append, List.cons_append]) | refine yn ?_) | refine ym ?_ | refine ya ?_ | refine yb ?_ | refine yg ?_ | refine yo ?_ | refine yc ?_))
  exact RQ.fin rfl rfl rfl
theorem qgj (c : Change) : PureC Tryz.prog 129 [c.av] (plainTr c).av := by
  refine yp tabs Tryz.func129 16 [.cell 2 58] rfl rfl rfl rfl rfl ?_; intro w0 X
  (repeat' (first | ((with_reducible show AL _ _ _ _ _); first | (refine yf tabs rfl ?_; try dsimp only [len, List.nil_append, List.cons_append]) | refine yn ?_) | refine ym ?_ | refine ya ?_ | refine yb ?_ | refine yg ?_ | refine yo ?_ | refine yc ?_))
  exact RQ.fin rfl rfl rfl
theorem qnd (f : List Node) (c : Change) (b : Bool) (hf : Fit f) (h0 : 0 < f.length) (hr : rightP f) (hck : c.kind = 8) (hcp : plainPr c = c)
    (hins : GenC Tryz.prog 128 [⟨24, 1, [[.os 1 f.length]]⟩, ⟨44, 16, f.map rowS⟩] [.ptr 0 1 0 0, c.av] (bav b) [⟨24, 1, [[.os 1 f.length]]⟩, ⟨44, 16, f.map rowS⟩]) : PureC Tryz.prog 71 [fav f, c.av] (.tup [fav (if b = true then f else []), iav (if b = true then 0 else 2)]) := by
  have hsame : PureC Tryz.prog 96 [c.av, (plainPr c).av] (bav true) := by
    rw [hcp]
    exact qad c (by rw [← hcp]; simp [plainPr, c0]) (by rw [← hcp]; exact fit0) (by rw [← hcp]; simp [plainPr, c0]) (by rw [← hcp]; simp [plainPr, c0]) (by omega) (by omega)
  have hfst : ∀ j : Nat, j < 7 → stepKeys[j]? ≠ some c.kind := by
    intro j hj
    rw [hck]
    match j, hj with
    | 0, _ => decide
    | 1, _ => decide
    | 2, _ => decide
    | 3, _ => decide
    | 4, _ => decide
    | 5, _ => decide
    | 6, _ => decide
  refine yp tabs Tryz.func71 51 [.cell 4 24, .tmp 5] rfl rfl rfl rfl rfl ?_; intro w0 X
  refine AW.reserve 44 16 rfl ?_
  refine AW.reserve 55 1 rfl ?_
  refine AW.reserve 126 4 rfl ?_
  (repeat' (first | ((with_reducible show AL _ _ _ _ _); first | (refine yf tabs rfl ?_; try dsimp only [len, List.nil_append, List.cons_append]) | refine yz [0] 6 rfl rfl rfl rfl rfl (caps := []) rfl (qew f hf h0) rfl rfl rfl rfl rfl rfl (by simp only [List.all_cons, List.all_nil, Bool.and_true]; exact qb f _) rfl (hpA := [⟨44, 16, f.map rowS⟩]) (by simp only [List.map_cons, List.map_nil, qf (k := 0) (rho0 rfl) (qb f 0)]) (r' := .agg [.os 0 f.length]) rfl rfl ?_ | refine yz [6, 0] 7 rfl rfl rfl rfl rfl (caps := []) rfl hins rfl (by simp only [List.map_cons, List.map_nil, qf (k := 0) (rho0 rfl) (qb f 0)]; rfl) rfl rfl (by simp only [qax]; exact ⟨rfl, qb f _⟩) rfl (by simp only [qax]; exact ⟨rfl, qb f _⟩) rfl (hpA := [⟨24, 1, [[.os 0 f.length]]⟩, ⟨44, 16, f.map rowS⟩]) (by simp only [List.map_cons, List.map_nil, qf (k := 0) (rho0 rfl) (qb f 0)]; rfl) (r' := bav b) rfl rfl ?_ | refine AL.op rfl (yat rfl rfl rfl rfl (.cons (fzS rfl) .nil) (qbc f hf) rfl) ?_ | refine yn ?_ | (refine yq rfl rfl rfl (fun hc => ?_) (fun hc => ?_) <;> (fail_if_success (exact absurd hc (by decide))) <;> (try simp only [hsx] at hc) <;> (try first | omega | contradiction | (simp [qa] at hc; done)))) | ((with_reducible show DQ _ _ _ _ _ _); first | refine DQ.stepc (yai rfl rfl rfl rfl rfl qbr rfl) rfl rfl rfl rfl rfl ?_ | refine DQ.stepc (yba (kf := k8) (q := c.kind) (xs := stepKeys) (i := 7) (v := [.fn 127, .fn 128, .bool false, .fn 109]) key56 Tryz.underlying128 zero126 rfl rfl rfl rfl rfl rfl (by rw [hck]; rfl) hfst rfl) rfl rfl rfl rfl rfl ?_ | refine DQ.stepc (LS.alloc 2 tabs rfl rfl rfl rfl rfl rfl) rfl rfl rfl rfl rfl ?_ | refine DQ.stepc (LS.store (i := ti126) (v := .agg [.imm (.fn 127), .imm (.fn 128), .imm (.bool false), .imm (.fn 109)]) (ty := 126) (sz := 4) (rows := [ti126.zero]) (r := ti126.zero) tabs rfl rfl rfl rfl rfl rfl rfl rfl rfl rfl (Nat.le_of_ble_eq_true rfl) rfl) rfl rfl rfl rfl rfl ?_ | refine DQ.stepc (yai rfl rfl rfl rfl rfl (qgi c) rfl) rfl rfl rfl rfl rfl ?_ | refine DQ.stepc (yai rfl rfl rfl rfl rfl hsame rfl) rfl rfl rfl rfl rfl ?_ | refine DQ.stepc (LS.val tabs rfl rfl rfl) rfl rfl rfl rfl rfl ?_ | refine DQ.stepc (yu rfl rfl) rfl rfl rfl rfl rfl ?_ | refine DQ.nilM (by kernel_rfl) ?_ | (refine DQ.gsplitE rfl rfl rfl (fun hc => ?_) (fun hc => ?_) <;> (fail_if_success (exact absurd hc (by decide))) <;> (try simp only [hsx] at hc) <;> (try first | omega | contradiction | (simp [qa] at hc; done)))) | refine ym ?_ | refine ya ?_ | refine yb ?_ | refine yg ?_ | refine yi rfl ?_ | refine yh rfl ?_ | (refine yk rfl (fun hc => ?_) (fun hc => ?_) <;> (try simp only [hsx] at hc) <;> (try first | omega | contradiction | (simp [qa] at hc; done))) | refine yo ?_ | refine yc ?_ | refine yr mixed (by kernel_rfl) ?_))
  all_goals first
    | (exfalso; exact hc hr)
    | (subst hc; exact RQ.fin rfl rfl rfl)
    | (subst hc; exact yap rfl (ya5 (.cons (fzS rfl) (.cons (Fz.im rfl) .nil))))
    | (rename_i h; subst h; exact yap rfl (ya5 (.cons (fzS rfl) (.cons (Fz.im rfl) .nil))))
theorem qne (f : List Node) (c : Change) (b : Bool) (hf : Fit f) (h0 : 0 < f.length) (hr : rightP f) (hck : c.kind = 10) (hcp : plainTr c = c) (ha : c.added.length ≤ 1000000000) (hrm : c.removed.length ≤ 1000000000)
    (hins : GenC Tryz.prog 130 [⟨24, 1, [[.os 1 f.length]]⟩, ⟨44, 16, f.map rowS⟩] [.ptr 0 1 0 0, c.av] (bav b) [⟨24, 1, [[.os 1 f.length]]⟩, ⟨44, 16, f.map rowS⟩]) : PureC Tryz.prog 71 [fav f, c.av] (.tup [fav (if b = true then f else []), iav (if b = true then 0 else 2)]) := by
  have hsame : PureC Tryz.prog 96 [c.av, (plainTr c).av] (bav true) := by
    rw [hcp]
    exact qad c (by rw [← hcp]; simp [plainTr, c0]) (by rw [← hcp]; exact fit0) ha hrm (by omega) (by omega)
  have hfst : ∀ j : Nat, j < 9 → stepKeys[j]? ≠ some c.kind := by
    intro j hj
    rw [hck]
    match j, hj with
    | 0, _ => decide
    | 1, _ => decide
    | 2, _ => decide
    | 3, _ => decide
    | 4, _ => decide
    | 5, _ => decide
    | 6, _ => decide
    | 7, _ => decide
    | 8, _ => decide
  refine yp tabs Tryz.func71 51 [.cell 4 24, .tmp 5] rfl rfl rfl rfl rfl ?_; intro w0 X
  refine AW.reserve 44 16 rfl ?_
  refine AW.reserve 55 1 rfl ?_
  refine AW.reserve 126 4 rfl ?_
  (repeat' (first | ((with_reducible show AL _ _ _ _ _); first | (refine yf tabs rfl ?_; try dsimp only [len, List.nil_append, List.cons_append]) | refine yz [0] 6 rfl rfl rfl rfl rfl (caps := []) rfl (qew f hf h0) rfl rfl rfl rfl rfl rfl (by simp only [List.all_cons, List.all_nil, Bool.and_true]; exact qb f _) rfl (hpA := [⟨44, 16, f.map rowS⟩]) (by simp only [List.map_cons, List.map_nil, qf (k := 0) (rho0 rfl) (qb f 0)]) (r' := .agg [.os 0 f.length]) rfl rfl ?_ | refine yz [6, 0] 7 rfl rfl rfl rfl rfl (caps := []) rfl hins rfl (by simp only [List.map_cons, List.map_nil, qf (k := 0) (rho0 rfl) (qb f 0)]; rfl) rfl rfl (by simp only [qax]; exact ⟨rfl, qb f _⟩) rfl (by simp only [qax]; exact ⟨rfl, qb f _⟩) rfl (hpA := [⟨24, 1, [[.os 0 f.length]]⟩, ⟨44, 16, f.map rowS⟩]) (by simp only [List.map_cons, List.map_nil, qf (k := 0) (rho0 rfl) (qb f 0)]; rfl) (r' := bav b) rfl rfl ?_ | refine AL.op rfl (yat rfl rfl rfl rfl (.cons (fzS rfl) .nil) (qbc f hf) rfl) ?_ | refine yn ?_ | (refine yq rfl rfl rfl (fun hc => ?_) (fun hc => ?_) <;> (fail_if_success (exact absurd hc (by decide))) <;> (try simp only [hsx] at hc) <;> (try first | omega | contradiction | (simp [qa] at hc; done)))) | ((with_reducible show DQ _ _ _ _ _ _); first | refine DQ.stepc (yai rfl rfl rfl rfl rfl qbr rfl) rfl rfl rfl rfl rfl ?_ | refine DQ.stepc (yba (kf := k8) (q := c.kind) (xs := stepKeys) (i := 9) (v := [.fn 129, .fn 130, .bool false, .fn 109]) key56 Tryz.underlying128 zero126 rfl rfl rfl rfl rfl rfl (by rw [hck]; rfl) hfst rfl) rfl rfl rfl rfl rfl ?_ | refine DQ.stepc (LS.alloc 2 tabs rfl rfl rfl rfl rfl rfl) rfl rfl rfl rfl rfl ?_ | refine DQ.stepc (LS.store (i := ti126) (v := .agg [.imm (.fn 129), .imm (.fn 130), .imm (.bool false), .imm (.fn 109)]) (ty := 126) (sz := 4) (rows := [ti126.zero]) (r := ti126.zero) tabs rfl rfl rfl rfl rfl rfl rfl rfl rfl rfl (Nat.le_of_ble_eq_true rfl) rfl) rfl rfl rfl rfl rfl ?_ | refine DQ.stepc (yai rfl rfl rfl rfl rfl (qgj c) rfl) rfl rfl rfl rfl rfl ?_ | refine DQ.stepc (yai rfl rfl rfl rfl rfl hsame rfl) rfl rfl rfl rfl rfl ?_ | refine DQ.stepc (LS.val tabs rfl rfl rfl) rfl rfl rfl rfl rfl ?_ | refine DQ.stepc (yu rfl rfl) rfl rfl rfl rfl rfl ?_ | refine DQ.nilM (by kernel_rfl) ?_ | (refine DQ.gsplitE rfl rfl rfl (fun hc => ?_) (fun hc => ?_) <;> (fail_if_success (exact absurd hc (by decide))) <;> (try simp only [hsx] at hc) <;> (try first | omega | contradiction | (simp [qa] at hc; done)))) | refine ym ?_ | refine ya ?_ | refine yb ?_ | refine yg ?_ | refine yi rfl ?_ | refine yh rfl ?_ | (refine yk rfl (fun hc => ?_) (fun hc => ?_) <;> (try simp only [hsx] at hc) <;> (try first | omega | contradiction | (simp [qa] at hc; done))) | refine yo ?_ | refine yc ?_ | refine yr mixed (by kernel_rfl) ?_))
  all_goals first
    | (exfalso; exact hc hr)
    | (subst hc; exact RQ.fin rfl rfl rfl)
    | (subst hc; exact yap rfl (ya5 (.cons (fzS rfl) (.cons (Fz.im rfl) .nil))))
    | (rename_i h; subst h; exact yap rfl (ya5 (.cons (fzS rfl) (.cons (Fz.im rfl) .nil))))
open Go.RowKit
section
variable {C : Cx} {s : St} {o : Oper} {T : List (Nat × TI)} {l : List Oper}
theorem ybv (hT : TsOK C.P T) (hd : dok C.nt o.dst = true) {t t2 : TypeId} {x : Operand} (ho : o.op = .convert t t2 x) {i i2 : TI} (hi : look T t = some i) (hi2 : look T t2 = some i2) {k k2 : IntKind} (hk : i2.kd = .int k2) {n : Int} (hx : s.ev x = some (.imm (.int k n))) (hw : k2.wrap n = n) : OpOK C s o (s.put o.dst (.imm (.int k2 n))) := by
  have := yb6 hT hd ho hi hi2 hk hx
  rwa [hw] at this
theorem OpOK.toU64 (hT : TsOK C.P T) (hd : dok C.nt o.dst = true) {t t2 : TypeId} {x : Operand} (ho : o.op = .convert t t2 x) {i i2 : TI} (hi : look T t = some i) (hi2 : look T t2 = some i2) {k : IntKind} (hk : i2.kd = .int .u64) {n : Int} (hx : s.ev x = some (.imm (.int k n))) (h0 : 0 ≤ n) (h1 : n < 18446744073709551616) : OpOK C s o (s.put o.dst (.imm (.int .u64 n))) :=
  ybv hT hd ho hi hi2 hk hx (by rw [IntKind.wrap_u64]; omega)
theorem ybg (hT : TsOK C.P T) (hd : dok C.nt o.dst = true) {t t2 : TypeId} {x : Operand} (ho : o.op = .convert t t2 x) {i i2 : TI} (hi : look T t = some i) (hi2 : look T t2 = some i2) {k : IntKind} (hk : i2.kd = .int .i64) {n : Int} (hx : s.ev x = some (.imm (.int k n))) (h0 : -9223372036854775808 ≤ n) (h1 : n < 9223372036854775808) : OpOK C s o (s.put o.dst (.imm (.int .i64 n))) :=
  ybv hT hd ho hi hi2 hk hx (by rw [IntKind.wrap_i64]; omega)
theorem yaz (hT : TsOK C.P T) (hd : dok C.nt o.dst = true) {t t2 : TypeId} {x : Operand} (ho : o.op = .convert t t2 x) {i i2 : TI} (hi : look T t = some i) (hi2 : look T t2 = some i2) {k : IntKind} (hk : i2.kd = .int .u32) {n : Int} (hx : s.ev x = some (.imm (.int k n))) (h0 : 0 ≤ n) (h1 : n < 4294967296) : OpOK C s o (s.put o.dst (.imm (.int .u32 n))) :=
  ybv hT hd ho hi hi2 hk hx (by rw [IntKind.wrap_u32]; omega)
theorem OpOK.min2 (hd : dok C.nt o.dst = true) {x y : Operand} {t t2 : TypeId} (ho : o.op = .call ⟨.builtin .min, #[x, y], #[t, t2]⟩) {k k2 : IntKind} {m n : Int} (hx : s.ev x = some (.imm (.int k m))) (hy : s.ev y = some (.imm (.int k2 n))) : OpOK C s o (s.put o.dst (.imm (.int k (min m n)))) :=
  yaj hd fun γ κ a W hC => by
    have h1 := hC.ev hx
    have h2 := hC.ev hy
    cases h1 with
    | imm _ _ h1 => cases h2 with
      | imm _ _ h2 =>
        refine ⟨.int k (if n < m then n else m), ?_, ?_⟩
        · unfold execOp; rw [ho]
          simp only [resolve, invoke, builtin, Sem.run_bind, Sem.run_pure, Result.andThen_ok, List.map_toArray, List.map_cons, List.map_nil, h1.int_inv, h2.int_inv]
          rfl
        · rw [show (if n < m then n else m) = min m n by split <;> omega]
          exact .imm _ _ (.int _ _)
theorem OpOK.max2 (hd : dok C.nt o.dst = true) {x y : Operand} {t t2 : TypeId} (ho : o.op = .call ⟨.builtin .max, #[x, y], #[t, t2]⟩) {k k2 : IntKind} {m n : Int} (hx : s.ev x = some (.imm (.int k m))) (hy : s.ev y = some (.imm (.int k2 n))) : OpOK C s o (s.put o.dst (.imm (.int k (max m n)))) :=
  yaj hd fun γ κ a W hC => by
    have h1 := hC.ev hx
    have h2 := hC.ev hy
    cases h1 with
    | imm _ _ h1 => cases h2 with
      | imm _ _ h2 =>
        refine ⟨.int k (if n > m then n else m), ?_, ?_⟩
        · unfold execOp; rw [ho]
          simp only [resolve, invoke, builtin, Sem.run_bind, Sem.run_pure, Result.andThen_ok, List.map_toArray, List.map_cons, List.map_nil, h1.int_inv, h2.int_inv]
          rfl
        · rw [show (if n > m then n else m) = max m n by split <;> omega]
          exact .imm _ _ (.int _ _)
theorem LS.max2 (hw : awant l s o = some true) (hd : dok C.nt o.dst = true) {x y : Operand} {t t2 : TypeId} (ho : o.op = .call ⟨.builtin .max, #[x, y], #[t, t2]⟩) {k k2 : IntKind} {m n : Int} (hx : s.ev x = some (.imm (.int k m))) (hy : s.ev y = some (.imm (.int k2 n))) : LS C l s o (mkFx l s o (.val (.imm (.int k (max m n)))) []) :=
  yav [] hw fun s' hl => OpOK.max2 hd ho ((hl.ev x (by rw [ho]; simp [Op.operands, Call.operands])).trans hx) ((hl.ev y (by rw [ho]; simp [Op.operands, Call.operands])).trans hy)
end
def idxGo : List Int → Int → Int → Int
  | [], _, _ => -1
  | y :: l, x, k => if x = y then k else idxGo l x (k + 1)
def idx (l : List Int) (x : Int) : Int := idxGo l x 0
theorem qey : ∀ (l : List Int) (x k : Int), 0 ≤ k → -1 ≤ idxGo l x k ∧ idxGo l x k < k + l.length ∨ (l = [] ∧ idxGo l x k = -1)
  | [], _, _, _ => .inr ⟨rfl, rfl⟩
  | y :: l, x, k, hk => by
    refine .inl ?_
    unfold idxGo
    split
    · simp only [List.length_cons]; omega
    · rcases qey l x (k + 1) (by omega) with h | ⟨_, h⟩
      · simp only [List.length_cons]; omega
      · rw [h]; simp only [List.length_cons]; omega
theorem qoa (l : List Int) (x : Int) : -1 ≤ idx l x := by
  rcases qey l x 0 (by omega) with h | ⟨_, h⟩
  · exact h.1
  · unfold idx; rw [h]; omega
theorem qmd (l : List Int) (x : Int) : idx l x < l.length ∨ idx l x = -1 := by
  rcases qey l x 0 (by omega) with h | ⟨_, h⟩
  · left; have := h.2; unfold idx; omega
  · right; exact h
theorem qjb (l : List Int) (x : Int) (hl : l.length ≤ 1000000000) : PureC Tryz.prog 82 [.imm (.sl (l.map i64)), iav x] (iav (idx l x)) := by
  refine yp tabs Tryz.func82 19 [.tmp 4] rfl rfl rfl rfl rfl ?_; intro w0 X
  (repeat' (first | ((with_reducible show AL _ _ _ _ _); first | (refine yf tabs rfl ?_; try dsimp only [len, List.nil_append, List.cons_append]) | refine yn ?_ | (refine AL.op rfl (yj rfl rfl rfl rfl rfl (by omega) (by omega)) ?_) | (refine AL.op rfl (ye tabs rfl rfl rfl rfl rfl rfl rfl (fun _ => rfl) (by decide) (by omega) (by omega)) ?_)) | fail | refine ym ?_ | refine ya ?_ | refine yb ?_ | refine yg ?_ | refine AW.block ?_ | refine yy ?_ | refine yi rfl ?_ | refine yh rfl ?_ | (refine yk rfl (fun hc => ?_) (fun hc => ?_) <;> (try simp only [hsx] at hc) <;> (try first | omega | contradiction | (simp [qa] at hc; done))) | refine yo ?_ | refine yaa ?_ | refine yc ?_ | refine yt ?_ | refine yab ?_ | refine yx ?_ | refine InB.off rfl ?_ | refine yaf ?_ | refine yac ?_))
  refine yao (α := Int) (fun i => ⟨[(0, .imm (.sl (l.map i64))), (1, iav x), (7, iav (l.map i64).length), (8, iav i)], []⟩) (fun i => 0 ≤ i ∧ i ≤ l.length ∧ idx l x = idxGo (l.drop i.toNat) x i) (fun i => (l.length - i).toNat) 0 (yag 0 rfl (by repeat' (first | exact trivial | refine ⟨rfl, ?_⟩)) rfl rfl (Nat.zero_le _)) ⟨by omega, by omega, rfl⟩ ?_
  intro i ⟨h0, h1, h2⟩
  (repeat' (first | ((with_reducible show AL _ _ _ _ _); first | (refine yf tabs rfl ?_; try dsimp only [len, List.nil_append, List.cons_append]) | refine yn ?_ | (refine AL.op rfl (yj rfl rfl rfl rfl rfl (by omega) (by omega)) ?_) | (refine AL.op rfl (ye tabs rfl rfl rfl rfl rfl rfl rfl (fun _ => rfl) (by decide) (by omega) (by omega)) ?_)) | refine ym ?_ | refine ya ?_ | refine yb ?_ | refine yg ?_ | refine AW.block ?_ | refine yy ?_ | refine yi rfl ?_ | refine yh rfl ?_ | (refine yk rfl (fun hc => ?_) (fun hc => ?_) <;> (try simp only [hsx] at hc) <;> (try first | omega | contradiction | (simp [qa] at hc; done))) | refine yo ?_ | refine yaa ?_ | refine yc ?_ | refine yt ?_ | refine yab ?_ | refine yx ?_ | refine InB.off rfl ?_ | refine yaf ?_ | refine yac ?_))
  · rw [qe h0 (by assumption)] at h2
    unfold idxGo at h2
    rw [if_pos hc] at h2
    rw [h2]
    exact RQ.fin rfl rfl rfl
  · rw [qe h0 (by assumption)] at h2
    unfold idxGo at h2
    rw [if_neg hc] at h2
    exact yak (i + 1) (yag 0 rfl (by repeat' (first | exact trivial | refine ⟨rfl, ?_⟩)) rfl rfl (Nat.zero_le _)) ⟨by omega, by omega, h2⟩ (by omega)
  · rw [List.drop_eq_nil_of_le (by omega)] at h2
    rw [h2]
    exact RQ.fin rfl rfl rfl
noncomputable def besideP (f : List Node) (h b : Int) : Int :=
  if (nodeAt f h).parent = 0 then 0 else if idx (nodeAt f (nodeAt f h).parent).kids h + b < 0 ∨ (nodeAt f (nodeAt f h).parent).kids.length ≤ idx (nodeAt f (nodeAt f h).parent).kids h + b then 0 else atI (nodeAt f (nodeAt f h).parent).kids (idx (nodeAt f (nodeAt f h).parent).kids h + b)
def placeP (f : List Node) (h : Int) : Int := max (idx (nodeAt f (nodeAt f h).parent).kids h) 0
theorem qc9 (f : List Node) (h b : Int) (hf : Fit f) (hb0 : -1000 ≤ b) (hb1 : b ≤ 1000) : PureC Tryz.prog 44 [fav f, iav h, iav b] (iav (besideP f h b)) := by
  have hl := hf.len
  obtain ⟨q, hq⟩ : ∃ q, q = (nodeAt f h).parent := ⟨_, rfl⟩
  obtain ⟨n, hn⟩ : ∃ n, n = nodeAt f q := ⟨_, rfl⟩
  have hk : n.kids.length ≤ 1000000000 := by rw [hn]; exact (hf.at q).kids
  have hml : (n.kids.map i64).length = n.kids.length := List.length_map _
  have h3 := qoa n.kids h
  have h4 := qmd n.kids h
  have e : besideP f h b = if q = 0 then 0 else if idx n.kids h + b < 0 ∨ (n.kids.length : Int) ≤ idx n.kids h + b then 0 else atI n.kids (idx n.kids h + b) := by unfold besideP; rw [← hq, ← hn]
  have c1 := qw f h hl
  have c2 := qw f q hl
  rw [← hn] at c2
  obtain ⟨m, hm⟩ : ∃ m, m = nodeAt f h := ⟨_, rfl⟩
  rw [← hm] at hq c1
  subst hq
  rw [e]
  refine yp tabs Tryz.func44 37 [.tmp 6] rfl rfl rfl rfl rfl ?_; intro w0 X
  (repeat' (first | ((with_reducible show AL _ _ _ _ _); first | (refine yf tabs rfl ?_; try dsimp only [len, List.nil_append, List.cons_append]) | refine AL.op rfl (yd rfl rfl rfl rfl c1 rfl) ?_ | refine AL.op rfl (yd rfl rfl rfl rfl c2 rfl) ?_ | refine AL.op rfl (yd rfl rfl rfl rfl (qjb n.kids h hk) rfl) ?_ | refine yn ?_ | (refine yq rfl rfl rfl (fun hc => ?_) (fun hc => ?_) <;> (fail_if_success (exact absurd hc (by decide))) <;> (try simp only [hsx] at hc) <;> (try first | omega | contradiction | (simp [qa] at hc; done))) | (refine AL.op rfl (yj rfl rfl rfl rfl rfl (by omega) (by omega)) ?_) | (refine AL.op rfl (ye tabs rfl rfl rfl rfl rfl rfl rfl (fun _ => rfl) (by decide) (by omega) (by omega)) ?_)) | refine ym ?_ | refine ya ?_ | refine yb ?_ | refine yg ?_ | refine yi rfl ?_ | refine yh rfl ?_ | (refine yk rfl (fun hc => ?_) (fun hc => ?_) <;> (try simp only [hsx] at hc) <;> (try first | omega | contradiction | (simp [qa] at hc; done))) | refine yo ?_ | refine yc ?_))
  all_goals first
    | (rw [if_pos (by omega)]; exact RQ.fin rfl rfl rfl)
    | (rw [if_neg (by omega), if_pos (by omega)]; exact RQ.fin rfl rfl rfl)
    | (rw [if_neg (by omega), if_neg (by omega)]; exact RQ.fin rfl rfl rfl)
theorem qnf (f : List Node) (h : Int) (hf : Fit f) : PureC Tryz.prog 46 [fav f, iav h] (iav (placeP f h)) := by
  have hl := hf.len
  have c1 := qw f h hl
  have c2 := qw f (nodeAt f h).parent hl
  have c3 := qjb (nodeAt f (nodeAt f h).parent).kids h (hf.at _).kids
  refine yp tabs Tryz.func46 15 [.tmp 4] rfl rfl rfl rfl rfl ?_; intro w0 X
  (repeat' (first | ((with_reducible show AL _ _ _ _ _); first | (refine yf tabs rfl ?_; try dsimp only [len, List.nil_append, List.cons_append]) | refine yn ?_) | ((with_reducible show DQ _ _ _ _ _ _); first | refine DQ.stepc (yai rfl rfl rfl rfl rfl c1 rfl) rfl rfl rfl rfl rfl ?_ | refine DQ.stepc (yai rfl rfl rfl rfl rfl c2 rfl) rfl rfl rfl rfl rfl ?_ | refine DQ.stepc (yai rfl rfl rfl rfl rfl c3 rfl) rfl rfl rfl rfl rfl ?_ | refine DQ.stepc (LS.max2 rfl rfl rfl rfl rfl) rfl rfl rfl rfl rfl ?_ | refine DQ.stepc (LS.val tabs rfl rfl rfl) rfl rfl rfl rfl rfl ?_ | refine DQ.stepc (yu rfl rfl) rfl rfl rfl rfl rfl ?_ | refine DQ.nilM (by kernel_rfl) ?_) | refine ym ?_ | refine ya ?_ | refine yb ?_ | refine yg ?_ | refine yo ?_ | refine yc ?_ | refine yr mixed (by kernel_rfl) ?_))
  all_goals first
    | exact RQ.fin rfl rfl rfl
def u32 (n : Int) : AV := .imm (.int .u32 n)
def spTo (n : Nat) (off cnt : Int) : Int := off + min cnt (n - off)
theorem qme (l : List Int) (off cnt : Int) (h0 : 0 ≤ off) (h1 : off < 4294967296) (h2 : 0 ≤ cnt) (h3 : cnt < 4294967296) (hl : l.length ≤ 1000000000) : PureC Tryz.prog 81 [.imm (.sl (l.map u16)), u32 off, u32 cnt] (.tup [iav (if off ≤ l.length then off else 0), iav (if off ≤ l.length then spTo l.length off cnt else 0), bav (dec (off ≤ l.length))]) := by
  have hml : (l.map u16).length = l.length := List.length_map _
  refine yp tabs Tryz.func81 30 [.tmp 6, .tmp 7, .tmp 8] rfl rfl rfl rfl rfl ?_; intro w0 X
  (repeat' (first | ((with_reducible show AL _ _ _ _ _); first | refine AL.op rfl (OpOK.toU64 tabs rfl rfl rfl rfl rfl rfl (by omega) (by omega)) ?_ | refine AL.op rfl (ybg tabs rfl rfl rfl rfl rfl rfl (by omega) (by omega)) ?_ | refine AL.op rfl (OpOK.min2 rfl rfl rfl rfl) ?_ | (refine yf tabs rfl ?_; try dsimp only [len, List.nil_append, List.cons_append]) | refine yn ?_ | (refine AL.op rfl (yj rfl rfl rfl rfl rfl (by omega) (by omega)) ?_)) | refine ym ?_ | refine ya ?_ | refine yb ?_ | refine yg ?_ | refine yi rfl ?_ | refine yh rfl ?_ | (refine yk rfl (fun hc => ?_) (fun hc => ?_) <;> (try simp only [hsx] at hc) <;> (try first | omega | contradiction | (simp [qa] at hc; done))) | refine yo ?_ | refine yc ?_))
  · rw [if_neg (by omega), if_neg (by omega), show dec (off ≤ (l.length : Int)) = false by rw [qi]; omega]; exact RQ.fin rfl rfl rfl
  · rw [if_pos (by omega), if_pos (by omega), show dec (off ≤ (l.length : Int)) = true by rw [qc]; omega]
    unfold spTo
    rw [← hml]
    exact RQ.fin rfl rfl rfl
def subP (l : List Int) (off cnt : Int) : List Int := (l.take (spTo l.length off cnt).toNat).drop off.toNat
theorem qob (l : List Int) (off cnt : Int) (h0 : 0 ≤ off) (h1 : off < 4294967296) (h2 : 0 ≤ cnt) (h3 : cnt < 4294967296) (hl : l.length ≤ 1000000000) : PureC Tryz.prog 41 [.imm (.sl (l.map u16)), u32 off, u32 cnt] (.tup [.imm (.sl ((if off ≤ l.length then subP l off cnt else []).map u16)), iav (if off ≤ l.length then 0 else 14)]) := by
  have hml : (l.map u16).length = l.length := List.length_map _
  have c1 := qme l off cnt h0 h1 h2 h3 hl
  by_cases h : off ≤ l.length
  · rw [if_pos h, if_pos h]
    rw [if_pos h, if_pos h, show dec (off ≤ (l.length : Int)) = true by rw [qc]; exact h] at c1
    have hs0 : off ≤ spTo l.length off cnt := by unfold spTo; omega
    have hs1 : spTo l.length off cnt ≤ l.length := by unfold spTo; omega
    have hsl : (subP l off cnt).length ≤ 1000000000 := by unfold subP; simp only [List.length_drop, List.length_take]; omega
    refine yp tabs Tryz.func41 26 [.tmp 6, .tmp 7] rfl rfl rfl rfl rfl ?_; intro w0 X
    (repeat' (first | ((with_reducible show AL _ _ _ _ _); first | (refine yf tabs rfl ?_; try dsimp only [len, List.nil_append, List.cons_append]) | refine AL.op rfl (yd rfl rfl rfl rfl c1 rfl) ?_ | refine AL.op rfl (ya0 (i := ti36) (ie := ti55) (e := 55) (f := u16) (xs := l) (l := off) (h := spTo l.length off cnt) tabs rfl rfl rfl rfl rfl rfl rfl rfl (fun _ => rfl) (by omega) (by omega) (by omega)) ?_ | refine yae rfl (yax (ie := ti55) tabs rfl rfl rfl rfl rfl (by decide) rfl (SrcA.imm (rows := (subP l off cnt).map u16) tabs rfl rfl rfl (by simp [u16, ti55])) (by simp [ti55]; omega) (by simp; omega)) rfl ?_ | refine yn ?_) | refine ym ?_ | refine ya ?_ | refine yb ?_ | refine yg ?_ | refine yi rfl ?_ | refine yh rfl ?_ | (refine yk rfl (fun hc => ?_) (fun hc => ?_) <;> (try simp only [hsx] at hc) <;> (try first | omega | contradiction | (simp [qa] at hc; done))) | refine yo ?_ | refine yc ?_))
    all_goals first
      | exact yap rfl (ya5 (.cons (Fz.os (b := ⟨55, 1, ((subP l off cnt).map u16).map (·.map .imm)⟩) (rows := (subP l off cnt).map u16) rfl rfl rfl) (.cons (Fz.im rfl) .nil)))
  · rw [if_neg h, if_neg h]
    rw [if_neg h, if_neg h, show dec (off ≤ (l.length : Int)) = false by rw [qi]; exact h] at c1
    refine yp tabs Tryz.func41 26 [.tmp 6, .tmp 7] rfl rfl rfl rfl rfl ?_; intro w0 X
    (repeat' (first | ((with_reducible show AL _ _ _ _ _); first | (refine yf tabs rfl ?_; try dsimp only [len, List.nil_append, List.cons_append]) | refine AL.op rfl (yd rfl rfl rfl rfl c1 rfl) ?_ | refine yn ?_) | refine ym ?_ | refine ya ?_ | refine yb ?_ | refine yg ?_ | refine yi rfl ?_ | refine yh rfl ?_ | (refine yk rfl (fun hc => ?_) (fun hc => ?_) <;> (try simp only [hsx] at hc) <;> (try first | omega | contradiction | (simp [qa] at hc; done))) | refine yo ?_ | refine yc ?_))
    all_goals first
      | exact RQ.fin rfl rfl rfl
def replL (l : List Int) (a b : Int) (v : List Int) : List Int := l.take a.toNat ++ v ++ l.drop b.toNat
def replP (l : List Int) (off cnt : Int) (v : List Int) : List Int × Int :=
  if (l.length : Int) < off then ([], 14) else if 16384 < (l.length : Int) - (spTo l.length off cnt - off) + v.length then ([], 4) else (replL l off (spTo l.length off cnt) v, 0)
theorem qez (l : List Int) : ∀ r ∈ l.map u16, r.length = ti55.sz := fun r hr => by
  obtain ⟨q, _, rfl⟩ := List.mem_map.1 hr
  rfl
theorem qoc (l : List Int) (off cnt : Int) (v : List Int) (h0 : 0 ≤ off) (h1 : off < 4294967296) (h2 : 0 ≤ cnt) (h3 : cnt < 4294967296) (hl : l.length ≤ 1000000000) (hv : v.length ≤ 1000000000) : PureC Tryz.prog 84 [.imm (.sl (l.map u16)), u32 off, u32 cnt, .imm (.sl (v.map u16))] (.tup [.imm (.sl ((replP l off cnt v).1.map u16)), iav (replP l off cnt v).2]) := by
  have hml : (l.map u16).length = l.length := List.length_map _
  have hmv : (v.map u16).length = v.length := List.length_map _
  have c1 := qme l off cnt h0 h1 h2 h3 hl
  by_cases h : off ≤ l.length
  · rw [if_pos h, if_pos h, show dec (off ≤ (l.length : Int)) = true by rw [qc]; exact h] at c1
    have hs0 : off ≤ spTo l.length off cnt := by unfold spTo; omega
    have hs1 : spTo l.length off cnt ≤ l.length := by unfold spTo; omega
    unfold replP
    rw [if_neg (by omega)]
    obtain ⟨to, hto⟩ : ∃ to, to = spTo l.length off cnt := ⟨_, rfl⟩
    rw [← hto] at c1 hs0 hs1 ⊢
    refine yp tabs Tryz.func84 48 [.tmp 8, .tmp 9] rfl rfl rfl rfl rfl ?_; intro w0 X
    (repeat' (first | ((with_reducible show AL _ _ _ _ _); first | (refine yf tabs rfl ?_; try dsimp only [len, List.nil_append, List.cons_append]) | refine AL.op rfl (yd rfl rfl rfl rfl c1 rfl) ?_ | refine yae rfl (ya0 (i := ti36) (ie := ti55) (e := 55) (f := u16) (xs := l) (l := 0) (h := off) tabs rfl rfl rfl rfl rfl rfl rfl rfl (fun _ => rfl) (by omega) (by omega) (by omega)) rfl ?_ | refine yae rfl (ya0 (i := ti36) (ie := ti55) (e := 55) (f := u16) (xs := l) (l := to) (h := l.length) tabs rfl rfl rfl rfl rfl rfl rfl rfl (fun _ => rfl) (by omega) (by omega) (by omega)) rfl ?_ | refine yae rfl (yax (ie := ti55) tabs rfl rfl rfl rfl rfl (by decide) rfl (SrcA.imm (rows := ((l.take off.toNat).drop (0 : Int).toNat).map u16) tabs rfl rfl rfl (qez _)) (by simp [ti55]; omega) (by simp; omega)) rfl ?_ | refine yae (h1 := [⟨55, 1, (((l.take off.toNat).drop (0 : Int).toNat).map u16).map (·.map .imm) ++ (v.map u16).map (·.map .imm)⟩]) rfl (yam (ie := ti55) (b := ⟨55, 1, (((l.take off.toNat).drop (0 : Int).toNat).map u16).map (·.map .imm)⟩) tabs rfl rfl rfl rfl rfl rfl rfl rfl rfl rfl (SrcA.imm (rows := v.map u16) tabs rfl rfl rfl (qez _)) (by simp [ti55]; omega) (by simp; omega)) rfl ?_ | refine yae rfl (yam (ie := ti55) (b := ⟨55, 1, (((l.take off.toNat).drop (0 : Int).toNat).map u16).map (·.map .imm) ++ (v.map u16).map (·.map .imm)⟩) tabs rfl rfl rfl rfl rfl rfl rfl List.length_append.symm rfl rfl (SrcA.imm (rows := ((l.take (l.length : Int).toNat).drop to.toNat).map u16) tabs rfl rfl rfl (qez _)) (by simp [ti55]; omega) (by simp; omega)) rfl ?_ | refine yn ?_ | (refine AL.op rfl (yj rfl rfl rfl rfl rfl (by omega) (by omega)) ?_)) | refine ym ?_ | refine ya ?_ | refine yb ?_ | refine yg ?_ | refine AW.block ?_ | refine yy ?_ | refine yi rfl ?_ | refine yh rfl ?_ | (refine yk rfl (fun hc => ?_) (fun hc => ?_) <;> (try simp only [hsx] at hc) <;> (try first | omega | contradiction | (simp [qa] at hc; done))) | refine yo ?_ | refine yaa ?_ | refine yc ?_ | refine yt ?_ | refine yab ?_ | refine yx ?_ | refine InB.off rfl ?_))
    all_goals first
      | (rw [if_pos (by omega)]; exact RQ.fin rfl rfl rfl)
      | (rw [if_neg (by omega)]; exact yap rfl (ya5 (.cons (Fz.os (rows := (replL l off to v).map u16) rfl (by simp [replL]; omega) (by simp [replL])) (.cons (Fz.im rfl) .nil))))
  · rw [if_neg h, if_neg h, show dec (off ≤ (l.length : Int)) = false by rw [qi]; exact h] at c1
    rw [show replP l off cnt v = ([], 14) by unfold replP; rw [if_pos (by omega)]]
    refine yp tabs Tryz.func84 48 [.tmp 8, .tmp 9] rfl rfl rfl rfl rfl ?_; intro w0 X
    (repeat' (first | ((with_reducible show AL _ _ _ _ _); first | (refine yf tabs rfl ?_; try dsimp only [len, List.nil_append, List.cons_append]) | refine AL.op rfl (yd rfl rfl rfl rfl c1 rfl) ?_ | refine yn ?_ | (refine AL.op rfl (yj rfl rfl rfl rfl rfl (by omega) (by omega)) ?_)) | refine ym ?_ | refine ya ?_ | refine yb ?_ | refine yg ?_ | refine AW.block ?_ | refine yy ?_ | refine yi rfl ?_ | refine yh rfl ?_ | (refine yk rfl (fun hc => ?_) (fun hc => ?_) <;> (try simp only [hsx] at hc) <;> (try first | omega | contradiction | (simp [qa] at hc; done))) | refine yo ?_ | refine yaa ?_ | refine yc ?_ | refine yt ?_ | refine yab ?_ | refine yx ?_ | refine InB.off rfl ?_))
    all_goals first
      | exact RQ.fin rfl rfl rfl
noncomputable def cfP (f : List Node) (h : Int) (b : Bool) : Int := if faultR f [h] ≠ 0 then faultR f [h] else if dec (dataB (nodeAt f h).kind) = false ∨ b = true ∧ dec (textB (nodeAt f h).kind) = false then 23 else 0
theorem q8 (f : List Node) (h : Int) (b : Bool) (hf : Fit f) : PureC Tryz.prog 39 [fav f, iav h, bav b] (iav (cfP f h b)) := by
  have hl := hf.len
  have c1 := qmw f [h] hf (by simp)
  have c2 := qw f h hl
  obtain ⟨n, hn⟩ : ∃ n, n = nodeAt f h := ⟨_, rfl⟩
  obtain ⟨e, he⟩ : ∃ e, e = faultR f [h] := ⟨_, rfl⟩
  unfold cfP
  rw [← hn, ← he]
  rw [← hn] at c2
  rw [← he] at c1
  have c3 := qn0 n.kind
  have c4 := qil n.kind
  obtain ⟨p, hp⟩ : ∃ p, p = dec (dataB n.kind) := ⟨_, rfl⟩
  obtain ⟨q, hq⟩ : ∃ q, q = dec (textB n.kind) := ⟨_, rfl⟩
  rw [← hp] at c3 ⊢
  rw [← hq] at c4 ⊢
  refine yp tabs Tryz.func39 31 [.tmp 6] rfl rfl rfl rfl rfl ?_; intro w0 X
  (repeat' (first | ((with_reducible show AL _ _ _ _ _); first | (refine yf tabs rfl ?_; try dsimp only [len, List.nil_append, List.cons_append]) | refine AL.op rfl (ya7 rfl rfl rfl rfl c1 rfl rfl) ?_ | refine AL.op rfl (yd rfl rfl rfl rfl c2 rfl) ?_ | refine AL.op rfl (yd rfl rfl rfl rfl c3 rfl) ?_ | refine AL.op rfl (yd rfl rfl rfl rfl c4 rfl) ?_ | refine yn ?_ | (refine yq rfl rfl rfl (fun hc => ?_) (fun hc => ?_) <;> (fail_if_success (exact absurd hc (by decide))) <;> (try simp only [hsx] at hc) <;> (try first | omega | contradiction | (simp [qa] at hc; done)))) | refine ym ?_ | refine ya ?_ | refine yb ?_ | refine yg ?_ | refine yi rfl ?_ | refine yh rfl ?_ | (refine yk rfl (fun hc => ?_) (fun hc => ?_) <;> (try simp only [hsx] at hc) <;> (try first | omega | contradiction | (simp [qa] at hc; done))) | refine yo ?_ | refine yc ?_))
  · rw [if_pos (by assumption)]; exact RQ.fin rfl rfl rfl
  · have h1 : e = 0 := by assumption
    have h2 : p = false := by assumption
    rw [if_neg (by omega), if_pos (by simp [h2])]; exact RQ.fin rfl rfl rfl
  · have h1 : e = 0 := by assumption
    have h2 : p = true := by assumption
    have h3 : b = true := by assumption
    have h4 : q = false := by assumption
    rw [if_neg (by omega), if_pos (by simp [h2, h3, h4])]; exact RQ.fin rfl rfl rfl
  · have h1 : e = 0 := by assumption
    have h2 : p = true := by assumption
    have h3 : b = true := by assumption
    have h4 : q = true := by assumption
    rw [if_neg (by omega), if_neg (by simp [h2, h3, h4])]; exact RQ.fin rfl rfl rfl
  · have h1 : e = 0 := by assumption
    have h2 : p = true := by assumption
    have h3 : b = false := by assumption
    rw [if_neg (by omega), if_neg (by simp [h2, h3])]; exact RQ.fin rfl rfl rfl
end Go.Proofs.YtmhejcnaanocpaaGreat.A
