/- Contracts: package forest, there, pair, tree: changes that turn nothing. -/
import Derived.Test.YtmhejcnaanocpaaGreatXAskGrpAS
import Derived.Test.YtmhejcnaanocpaaGreatXAskGrpAP
import Derived.Test.YtmhejcnaanocpaaGreatXAskGrpAJ
import Derived.Test.YtmhejcnaanocpaaGreatXAskGrpAK
namespace Go.Proofs.YtmhejcnaanocpaaGreat.A
set_option linter.unusedVariables false
set_option linter.unusedSimpArgs false
set_option maxRecDepth 100000
set_option maxHeartbeats 4000000
theorem qop (f : List Node) (c : Change) (hl : f.length ≤ 1000000000) (ha : c.added.length ≤ 1000000000) (hr : c.removed.length ≤ 1000000000) : GenC Tryz.prog 130 [⟨24, 1, [[.os 1 f.length]]⟩, ⟨44, 16, f.map rowS⟩] [.ptr 0 1 0 0, c.av] (bav (dec (treeP f c))) [⟨24, 1, [[.os 1 f.length]]⟩, ⟨44, 16, f.map rowS⟩] := by
  have H1 := thereO f [c.parent] hl (by simp)
  rw [show ([c.parent].all fun h => inB f h) = inB f c.parent by simp] at H1
  obtain ⟨b1, e1⟩ : ∃ b, b = inB f c.parent := ⟨_, rfl⟩
  rw [← e1] at H1
  have H4 := thereO f [c.prev] hl (by simp)
  rw [show ([c.prev].all fun h => inB f h) = inB f c.prev by simp] at H4
  obtain ⟨b4, e4⟩ : ∃ b, b = inB f c.prev := ⟨_, rfl⟩
  rw [← e4] at H4
  have H5 := thereO f [c.next] hl (by simp)
  rw [show ([c.next].all fun h => inB f h) = inB f c.next by simp] at H5
  obtain ⟨b5, e5⟩ : ∃ b, b = inB f c.next := ⟨_, rfl⟩
  rw [← e5] at H5
  have H2 := thereI f c.added hl ha
  obtain ⟨b2, e2⟩ : ∃ b, b = (c.added.all fun h => inB f h) := ⟨_, rfl⟩
  rw [← e2] at H2
  have H3 := thereI f c.removed hl hr
  obtain ⟨b3, e3⟩ : ∃ b, b = (c.removed.all fun h => inB f h) := ⟨_, rfl⟩
  rw [← e3] at H3
  have hP : treeP f c ↔ b1 = true ∧ b2 = true ∧ b3 = true ∧ (c.prev = 0 ∨ b4 = true) ∧ (c.next = 0 ∨ b5 = true) := by rw [e1, e2, e3, e4, e5]; rfl
  rw [propext hP]
  refine yaj tabs Tryz.func130 47 [.tmp 4] rfl rfl rfl rfl rfl ?_; intro w0 X γ κ
  (repeat' (first | ((with_reducible show AL _ _ _ _ _); first | (refine AL.step tabs rfl ?_; try dsimp only [len, List.nil_append, List.cons_append]) | (refine yac [0, 1, 3] 4 rfl rfl rfl rfl rfl (caps := []) rfl H1 rfl (by simp only [List.map_cons, List.map_nil, qk (k := 0) (rho0 rfl) (qc f 0), qn]; rfl) rfl rfl (by simp only [qax]; exact ⟨rfl, qc _ _, qbu _ _⟩) rfl (by simp only [qax]; exact ⟨rfl, qc _ _, qbu _ _⟩) rfl (hpA := [⟨24, 1, [[.os 1 f.length]]⟩, ⟨44, 16, f.map rowS⟩, ⟨3, 1, [c.parent].map cI⟩]) (by simp only [List.map_cons, List.map_nil, qk (k := 0) (rho0 rfl) (qc f 0), qn]; rfl) (r' := bav b1) rfl rfl ?_; try dsimp only [setAll, List.drop_succ_cons, List.drop_zero, List.drop_nil, List.set_cons_succ, List.set_cons_zero, List.cons_append, List.nil_append, List.append_nil, len]) | (refine yac [0, 1] 4 rfl rfl rfl rfl rfl (caps := []) rfl H2 rfl (by simp only [List.map_cons, List.map_nil, qk (k := 0) (rho0 rfl) (qc f 0), qn]; rfl) rfl rfl (by simp only [qax]; exact ⟨rfl, qc _ _⟩) rfl (by simp only [qax]; exact ⟨rfl, qc _ _⟩) rfl (hpA := [⟨24, 1, [[.os 1 f.length]]⟩, ⟨44, 16, f.map rowS⟩]) (by simp only [List.map_cons, List.map_nil, qk (k := 0) (rho0 rfl) (qc f 0), qn]; rfl) (r' := bav b2) rfl rfl ?_; try dsimp only [setAll, List.drop_succ_cons, List.drop_zero, List.drop_nil, List.set_cons_succ, List.set_cons_zero, List.cons_append, List.nil_append, List.append_nil, len]) | (refine yac [0, 1] 4 rfl rfl rfl rfl rfl (caps := []) rfl H3 rfl (by simp only [List.map_cons, List.map_nil, qk (k := 0) (rho0 rfl) (qc f 0), qn]; rfl) rfl rfl (by simp only [qax]; exact ⟨rfl, qc _ _⟩) rfl (by simp only [qax]; exact ⟨rfl, qc _ _⟩) rfl (hpA := [⟨24, 1, [[.os 1 f.length]]⟩, ⟨44, 16, f.map rowS⟩]) (by simp only [List.map_cons, List.map_nil, qk (k := 0) (rho0 rfl) (qc f 0), qn]; rfl) (r' := bav b3) rfl rfl ?_; try dsimp only [setAll, List.drop_succ_cons, List.drop_zero, List.drop_nil, List.set_cons_succ, List.set_cons_zero, List.cons_append, List.nil_append, List.append_nil, len]) | (refine yac [0, 1, 4] 5 rfl rfl rfl rfl rfl (caps := []) rfl H4 rfl (by simp only [List.map_cons, List.map_nil, qk (k := 0) (rho0 rfl) (qc f 0), qn]; rfl) rfl rfl (by simp only [qax]; exact ⟨rfl, qc _ _, qbu _ _⟩) rfl (by simp only [qax]; exact ⟨rfl, qc _ _, qbu _ _⟩) rfl (hpA := [⟨24, 1, [[.os 1 f.length]]⟩, ⟨44, 16, f.map rowS⟩, ⟨3, 1, [c.prev].map cI⟩]) (by simp only [List.map_cons, List.map_nil, qk (k := 0) (rho0 rfl) (qc f 0), qn]; rfl) (r' := bav b4) rfl rfl ?_; try dsimp only [setAll, List.drop_succ_cons, List.drop_zero, List.drop_nil, List.set_cons_succ, List.set_cons_zero, List.cons_append, List.nil_append, List.append_nil, len]) | (refine yac [0, 1, 4] 5 rfl rfl rfl rfl rfl (caps := []) rfl H5 rfl (by simp only [List.map_cons, List.map_nil, qk (k := 0) (rho0 rfl) (qc f 0), qn]; rfl) rfl rfl (by simp only [qax]; exact ⟨rfl, qc _ _, qbu _ _⟩) rfl (by simp only [qax]; exact ⟨rfl, qc _ _, qbu _ _⟩) rfl (hpA := [⟨24, 1, [[.os 1 f.length]]⟩, ⟨44, 16, f.map rowS⟩, ⟨3, 1, [c.next].map cI⟩]) (by simp only [List.map_cons, List.map_nil, qk (k := 0) (rho0 rfl) (qc f 0), qn]; rfl) (r' := bav b5) rfl rfl ?_; try dsimp only [setAll, List.drop_succ_cons, List.drop_zero, List.drop_nil, List.set_cons_succ, List.set_cons_zero, List.cons_append, List.nil_append, List.append_nil, len]) | (refine yac [0, 1, 5] 6 rfl rfl rfl rfl rfl (caps := []) rfl H5 rfl (by simp only [List.map_cons, List.map_nil, qk (k := 0) (rho0 rfl) (qc f 0), qn]; rfl) rfl rfl (by simp only [qax]; exact ⟨rfl, qc _ _, qbu _ _⟩) rfl (by simp only [qax]; exact ⟨rfl, qc _ _, qbu _ _⟩) rfl (hpA := [⟨24, 1, [[.os 1 f.length]]⟩, ⟨44, 16, f.map rowS⟩, ⟨3, 1, [c.next].map cI⟩]) (by simp only [List.map_cons, List.map_nil, qk (k := 0) (rho0 rfl) (qc f 0), qn]; rfl) (r' := bav b5) rfl rfl ?_; try dsimp only [setAll, List.drop_succ_cons, List.drop_zero, List.drop_nil, List.set_cons_succ, List.set_cons_zero, List.cons_append, List.nil_append, List.append_nil, len]) | refine ym ?_ | (refine yj rfl rfl rfl (fun hc => ?_) (fun hc => ?_) <;> (fail_if_success (exact absurd hc (by decide))) <;> (try simp only [hsx] at hc) <;> (try first | omega | contradiction | (simp [qa] at hc; done)))) | refine yn ?_ | refine yc ?_ | refine ya ?_ | refine yf ?_ | refine yh rfl ?_ | refine yg rfl ?_ | (refine yk rfl (fun hc => ?_) (fun hc => ?_) <;> (try simp only [hsx] at hc) <;> (try first | omega | contradiction | (simp [qa] at hc; done))) | refine yo ?_ | refine yd ?_))
  all_goals first | (exfalso; omega) | (refine yam 2 rfl (congrArg bav ?_) rfl rfl (by simp only [qax]; exact ⟨rfl, qc _ _⟩) (by simp [cxG]); clear H1 H2 H3 H4 H5 e1 e2 e3 e4 e5 hP; rw [Bool.eq_iff_iff, qb]; grind)
def plainPr (c : Change) : Change := { c0 with kind := c.kind, node := c.node, other := c.other, offset := c.offset }
def plainTr (c : Change) : Change := { c0 with kind := c.kind, parent := c.parent, added := c.added, removed := c.removed, prev := c.prev, next := c.next }
theorem qg0 (c : Change) : PureC Tryz.prog 127 [c.av] (plainPr c).av := by
  refine yq tabs Tryz.func127 12 [.cell 2 58] rfl rfl rfl rfl rfl ?_; intro w0 X
  (repeat' (first | ((with_reducible show AL _ _ _ _ _); first | (refine AL.step tabs rfl ?_; try dsimp only [len, List.nil_append, List.cons_append]) | refine ym ?_) | refine yn ?_ | refine yc ?_ | refine ya ?_ | refine yf ?_ | refine yo ?_ | refine yd ?_))
  exact RQ.fin rfl rfl rfl
theorem qg1 (c : Change) : PureC Tryz.prog 129 [c.av] (plainTr c).av := by
  refine yq tabs Tryz.func129 16 [.cell 2 58] rfl rfl rfl rfl rfl ?_; intro w0 X
  (repeat' (first | ((with_reducible show AL _ _ _ _ _); first | (refine AL.step tabs rfl ?_; try dsimp only [len, List.nil_append, List.cons_append]) | refine ym ?_) | refine yn ?_ | refine yc ?_ | refine ya ?_ | refine yf ?_ | refine yo ?_ | refine yd ?_))
  exact RQ.fin rfl rfl rfl
theorem qno (f : List Node) (c : Change) (b : Bool) (hf : Fit f) (h0 : 0 < f.length) (hr : rightP f) (hck : c.kind = 8) (hcp : plainPr c = c)
    (hins : GenC Tryz.prog 128 [⟨24, 1, [[.os 1 f.length]]⟩, ⟨44, 16, f.map rowS⟩] [.ptr 0 1 0 0, c.av] (bav b) [⟨24, 1, [[.os 1 f.length]]⟩, ⟨44, 16, f.map rowS⟩]) : PureC Tryz.prog 71 [fav f, c.av] (.tup [fav (if b = true then f else []), iav (if b = true then 0 else 2)]) := by
  have hsame : PureC Tryz.prog 96 [c.av, (plainPr c).av] (bav true) := by
    rw [hcp]
    exact qan c (by rw [← hcp]; simp [plainPr, c0]) (by rw [← hcp]; exact fit0) (by rw [← hcp]; simp [plainPr, c0]) (by rw [← hcp]; simp [plainPr, c0]) (by omega) (by omega)
  have hfst : ∀ j : Nat, j < 7 → stepKeys[j]? ≠ some c.kind := by
    intro j hj
    rw [hck]
    match j, hj with
    | 0, _ => decide
    | 1, _ => decide
    | 2, _ => decide
    | 3, _ => decide
    | 4, _ => decide
    | 5, _ => decide
    | 6, _ => decide
  refine yq tabs Tryz.func71 51 [.cell 4 24, .tmp 5] rfl rfl rfl rfl rfl ?_; intro w0 X
  refine AW.reserve 44 16 rfl ?_
  refine AW.reserve 55 1 rfl ?_
  refine AW.reserve 126 4 rfl ?_
  (repeat' (first | ((with_reducible show AL _ _ _ _ _); first | (refine AL.step tabs rfl ?_; try dsimp only [len, List.nil_append, List.cons_append]) | refine yac [0] 6 rfl rfl rfl rfl rfl (caps := []) rfl (qfa f hf h0) rfl rfl rfl rfl rfl rfl (by simp only [List.all_cons, List.all_nil, Bool.and_true]; exact qc f _) rfl (hpA := [⟨44, 16, f.map rowS⟩]) (by simp only [List.map_cons, List.map_nil, qk (k := 0) (rho0 rfl) (qc f 0)]) (r' := .agg [.os 0 f.length]) rfl rfl ?_ | refine yac [6, 0] 7 rfl rfl rfl rfl rfl (caps := []) rfl hins rfl (by simp only [List.map_cons, List.map_nil, qk (k := 0) (rho0 rfl) (qc f 0)]; rfl) rfl rfl (by simp only [qax]; exact ⟨rfl, qc f _⟩) rfl (by simp only [qax]; exact ⟨rfl, qc f _⟩) rfl (hpA := [⟨24, 1, [[.os 0 f.length]]⟩, ⟨44, 16, f.map rowS⟩]) (by simp only [List.map_cons, List.map_nil, qk (k := 0) (rho0 rfl) (qc f 0)]; rfl) (r' := bav b) rfl rfl ?_ | refine AL.op rfl (yat rfl rfl rfl rfl (.cons (fzS rfl) .nil) (qbn f hf) rfl) ?_ | refine ym ?_ | (refine yj rfl rfl rfl (fun hc => ?_) (fun hc => ?_) <;> (fail_if_success (exact absurd hc (by decide))) <;> (try simp only [hsx] at hc) <;> (try first | omega | contradiction | (simp [qa] at hc; done)))) | ((with_reducible show DQ _ _ _ _ _ _); first | refine DQ.stepc (yai rfl rfl rfl rfl rfl qb3 rfl) rfl rfl rfl rfl rfl ?_ | refine DQ.stepc (ya4 (kf := k8) (q := c.kind) (xs := stepKeys) (i := 7) (v := [.fn 127, .fn 128, .bool false, .fn 109]) key56 Tryz.underlying128 zero126 rfl rfl rfl rfl rfl rfl (by rw [hck]; rfl) hfst rfl) rfl rfl rfl rfl rfl ?_ | refine DQ.stepc (LS.alloc 2 tabs rfl rfl rfl rfl rfl rfl) rfl rfl rfl rfl rfl ?_ | refine DQ.stepc (LS.store (i := ti126) (v := .agg [.imm (.fn 127), .imm (.fn 128), .imm (.bool false), .imm (.fn 109)]) (ty := 126) (sz := 4) (rows := [ti126.zero]) (r := ti126.zero) tabs rfl rfl rfl rfl rfl rfl rfl rfl rfl rfl (Nat.le_of_ble_eq_true rfl) rfl) rfl rfl rfl rfl rfl ?_ | refine DQ.stepc (yai rfl rfl rfl rfl rfl (qg0 c) rfl) rfl rfl rfl rfl rfl ?_ | refine DQ.stepc (yai rfl rfl rfl rfl rfl hsame rfl) rfl rfl rfl rfl rfl ?_ | refine DQ.stepc (LS.val tabs rfl rfl rfl) rfl rfl rfl rfl rfl ?_ | refine DQ.stepc (yab rfl rfl) rfl rfl rfl rfl rfl ?_ | refine DQ.nilM (by kernel_rfl) ?_ | (refine DQ.gsplitE rfl rfl rfl (fun hc => ?_) (fun hc => ?_) <;> (fail_if_success (exact absurd hc (by decide))) <;> (try simp only [hsx] at hc) <;> (try first | omega | contradiction | (simp [qa] at hc; done)))) | refine yn ?_ | refine yc ?_ | refine ya ?_ | refine yf ?_ | refine yh rfl ?_ | refine yg rfl ?_ | (refine yk rfl (fun hc => ?_) (fun hc => ?_) <;> (try simp only [hsx] at hc) <;> (try first | omega | contradiction | (simp [qa] at hc; done))) | refine yo ?_ | refine yd ?_ | refine yx mixed (by kernel_rfl) ?_))
  all_goals first
    | (exfalso; exact hc hr)
    | (subst hc; exact RQ.fin rfl rfl rfl)
    | (subst hc; exact yao rfl (ya0 (.cons (fzS rfl) (.cons (Fz.im rfl) .nil))))
    | (rename_i h; subst h; exact yao rfl (ya0 (.cons (fzS rfl) (.cons (Fz.im rfl) .nil))))
theorem qnp (f : List Node) (c : Change) (b : Bool) (hf : Fit f) (h0 : 0 < f.length) (hr : rightP f) (hck : c.kind = 10) (hcp : plainTr c = c) (ha : c.added.length ≤ 1000000000) (hrm : c.removed.length ≤ 1000000000)
    (hins : GenC Tryz.prog 130 [⟨24, 1, [[.os 1 f.length]]⟩, ⟨44, 16, f.map rowS⟩] [.ptr 0 1 0 0, c.av] (bav b) [⟨24, 1, [[.os 1 f.length]]⟩, ⟨44, 16, f.map rowS⟩]) : PureC Tryz.prog 71 [fav f, c.av] (.tup [fav (if b = true then f else []), iav (if b = true then 0 else 2)]) := by
  have hsame : PureC Tryz.prog 96 [c.av, (plainTr c).av] (bav true) := by
    rw [hcp]
    exact qan c (by rw [← hcp]; simp [plainTr, c0]) (by rw [← hcp]; exact fit0) ha hrm (by omega) (by omega)
  have hfst : ∀ j : Nat, j < 9 → stepKeys[j]? ≠ some c.kind := by
    intro j hj
    rw [hck]
    match j, hj with
    | 0, _ => decide
    | 1, _ => decide
    | 2, _ => decide
    | 3, _ => decide
    | 4, _ => decide
    | 5, _ => decide
    | 6, _ => decide
    | 7, _ => decide
    | 8, _ => decide
  refine yq tabs Tryz.func71 51 [.cell 4 24, .tmp 5] rfl rfl rfl rfl rfl ?_; intro w0 X
  refine AW.reserve 44 16 rfl ?_
  refine AW.reserve 55 1 rfl ?_
  refine AW.reserve 126 4 rfl ?_
  (repeat' (first | ((with_reducible show AL _ _ _ _ _); first | (refine AL.step tabs rfl ?_; try dsimp only [len, List.nil_append, List.cons_append]) | refine yac [0] 6 rfl rfl rfl rfl rfl (caps := []) rfl (qfa f hf h0) rfl rfl rfl rfl rfl rfl (by simp only [List.all_cons, List.all_nil, Bool.and_true]; exact qc f _) rfl (hpA := [⟨44, 16, f.map rowS⟩]) (by simp only [List.map_cons, List.map_nil, qk (k := 0) (rho0 rfl) (qc f 0)]) (r' := .agg [.os 0 f.length]) rfl rfl ?_ | refine yac [6, 0] 7 rfl rfl rfl rfl rfl (caps := []) rfl hins rfl (by simp only [List.map_cons, List.map_nil, qk (k := 0) (rho0 rfl) (qc f 0)]; rfl) rfl rfl (by simp only [qax]; exact ⟨rfl, qc f _⟩) rfl (by simp only [qax]; exact ⟨rfl, qc f _⟩) rfl (hpA := [⟨24, 1, [[.os 0 f.length]]⟩, ⟨44, 16, f.map rowS⟩]) (by simp only [List.map_cons, List.map_nil, qk (k := 0) (rho0 rfl) (qc f 0)]; rfl) (r' := bav b) rfl rfl ?_ | refine AL.op rfl (yat rfl rfl rfl rfl (.cons (fzS rfl) .nil) (qbn f hf) rfl) ?_ | refine ym ?_ | (refine yj rfl rfl rfl (fun hc => ?_) (fun hc => ?_) <;> (fail_if_success (exact absurd hc (by decide))) <;> (try simp only [hsx] at hc) <;> (try first | omega | contradiction | (simp [qa] at hc; done)))) | ((with_reducible show DQ _ _ _ _ _ _); first | refine DQ.stepc (yai rfl rfl rfl rfl rfl qb3 rfl) rfl rfl rfl rfl rfl ?_ | refine DQ.stepc (ya4 (kf := k8) (q := c.kind) (xs := stepKeys) (i := 9) (v := [.fn 129, .fn 130, .bool false, .fn 109]) key56 Tryz.underlying128 zero126 rfl rfl rfl rfl rfl rfl (by rw [hck]; rfl) hfst rfl) rfl rfl rfl rfl rfl ?_ | refine DQ.stepc (LS.alloc 2 tabs rfl rfl rfl rfl rfl rfl) rfl rfl rfl rfl rfl ?_ | refine DQ.stepc (LS.store (i := ti126) (v := .agg [.imm (.fn 129), .imm (.fn 130), .imm (.bool false), .imm (.fn 109)]) (ty := 126) (sz := 4) (rows := [ti126.zero]) (r := ti126.zero) tabs rfl rfl rfl rfl rfl rfl rfl rfl rfl rfl (Nat.le_of_ble_eq_true rfl) rfl) rfl rfl rfl rfl rfl ?_ | refine DQ.stepc (yai rfl rfl rfl rfl rfl (qg1 c) rfl) rfl rfl rfl rfl rfl ?_ | refine DQ.stepc (yai rfl rfl rfl rfl rfl hsame rfl) rfl rfl rfl rfl rfl ?_ | refine DQ.stepc (LS.val tabs rfl rfl rfl) rfl rfl rfl rfl rfl ?_ | refine DQ.stepc (yab rfl rfl) rfl rfl rfl rfl rfl ?_ | refine DQ.nilM (by kernel_rfl) ?_ | (refine DQ.gsplitE rfl rfl rfl (fun hc => ?_) (fun hc => ?_) <;> (fail_if_success (exact absurd hc (by decide))) <;> (try simp only [hsx] at hc) <;> (try first | omega | contradiction | (simp [qa] at hc; done)))) | refine yn ?_ | refine yc ?_ | refine ya ?_ | refine yf ?_ | refine yh rfl ?_ | refine yg rfl ?_ | (refine yk rfl (fun hc => ?_) (fun hc => ?_) <;> (try simp only [hsx] at hc) <;> (try first | omega | contradiction | (simp [qa] at hc; done))) | refine yo ?_ | refine yd ?_ | refine yx mixed (by kernel_rfl) ?_))
  all_goals first
    | (exfalso; exact hc hr)
    | (subst hc; exact RQ.fin rfl rfl rfl)
    | (subst hc; exact yao rfl (ya0 (.cons (fzS rfl) (.cons (Fz.im rfl) .nil))))
    | (rename_i h; subst h; exact yao rfl (ya0 (.cons (fzS rfl) (.cons (Fz.im rfl) .nil))))
theorem qnq (f g : List Node) (c : Change) (w : Int) (hf : Fit f) (hr : rightP f) (hd : PureC Tryz.prog 71 [fav f, c.av] (.tup [fav g, iav w])) : PureC Tryz.prog 83 [fav f, c.av] (.tup [fav g, iav w]) := by
  refine yq tabs Tryz.func83 15 [.cell 4 24, .tmp 5] rfl rfl rfl rfl rfl ?_; intro w0 X
  (repeat' (first | ((with_reducible show AL _ _ _ _ _); first | (refine AL.step tabs rfl ?_; try dsimp only [len, List.nil_append, List.cons_append]) | refine AL.op rfl (yb rfl rfl rfl rfl (qft (qbn f hf) hr) rfl) ?_ | refine AL.op rfl (yb rfl rfl rfl rfl hd rfl) ?_ | refine ym ?_) | refine yn ?_ | refine yc ?_ | refine ya ?_ | refine yf ?_ | refine yh rfl ?_ | refine yg rfl ?_ | (refine yk rfl (fun hc => ?_) (fun hc => ?_) <;> (try simp only [hsx] at hc) <;> (try first | omega | contradiction | (simp [qa] at hc; done))) | refine yo ?_ | refine yd ?_))
  exact RQ.fin rfl rfl rfl
def rowC (c : Change) : List AV := c.iv.map .imm
theorem qe (l : List Change) (k : Nat) : (l.map rowC).all (fun r => r.all (AV.sc1 k)) = true := by
  rw [List.all_map, List.all_eq_true]
  exact fun n _ => rfl
structure PS where
  F : List Node
  L : List Change
  why : Int
theorem qo6 (p : PS) (c : Change) (h : p.why ≠ 0) : GenC Tryz.prog 45 [⟨112, 3, [[.imm (.sl (p.F.map Node.iv)), .os 1 p.L.length, iav p.why]]⟩, ⟨58, 36, p.L.map rowC⟩] [.ptr 0 1 0 0, c.av] (bav false) [⟨112, 3, [[.imm (.sl (p.F.map Node.iv)), .os 1 p.L.length, iav p.why]]⟩, ⟨58, 36, p.L.map rowC⟩] := by
  refine yaj tabs Tryz.func45 41 [.tmp 4] rfl rfl rfl rfl rfl ?_; intro w0 X γ κ
  (repeat' (first | ((with_reducible show AL _ _ _ _ _); first | (refine AL.step tabs rfl ?_; try dsimp only [len, List.nil_append, List.cons_append]) | refine ym ?_) | ((with_reducible show DQ _ _ _ _ _ _); first | refine DQ.stepc (LS.val tabs rfl rfl rfl) rfl rfl rfl rfl rfl ?_ | refine DQ.stepc (yab rfl rfl) rfl rfl rfl rfl rfl ?_ | refine DQ.nilM (by kernel_rfl) ?_) | refine yn ?_ | refine yc ?_ | refine ya ?_ | refine yf ?_ | refine yh rfl ?_ | refine yg rfl ?_ | (refine yk rfl (fun hc => ?_) (fun hc => ?_) <;> (try simp only [hsx] at hc) <;> (try first | omega | contradiction | (simp [qa] at hc; done))) | refine yo ?_ | refine yd ?_ | refine yx mixed (by kernel_rfl) ?_))
  refine yam 2 rfl rfl rfl rfl ?_ (by simp [cxG])
  simp only [qax]
  exact ⟨⟨rfl, rfl, rfl⟩, qe _ _⟩
theorem qo7 (p : PS) (c : Change) (g : List Node) (w : Int) (h0 : p.why = 0) (hw : w ≠ 0) (ha : PureC Tryz.prog 83 [fav p.F, c.av] (.tup [fav g, iav w])) : GenC Tryz.prog 45 [⟨112, 3, [[.imm (.sl (p.F.map Node.iv)), .os 1 p.L.length, iav p.why]]⟩, ⟨58, 36, p.L.map rowC⟩] [.ptr 0 1 0 0, c.av] (bav false) [⟨112, 3, [[.imm (.sl (p.F.map Node.iv)), .os 1 p.L.length, iav w]]⟩, ⟨58, 36, p.L.map rowC⟩] := by
  refine yaj tabs Tryz.func45 41 [.tmp 4] rfl rfl rfl rfl rfl ?_; intro w0 X γ κ
  refine AW.reserve 24 1 rfl ?_
  (repeat' (first | ((with_reducible show AL _ _ _ _ _); first | (refine AL.step tabs rfl ?_; try dsimp only [len, List.nil_append, List.cons_append]) | refine ym ?_) | ((with_reducible show DQ _ _ _ _ _ _); first | refine DQ.stepc (yai rfl rfl rfl rfl rfl ha rfl) rfl rfl rfl rfl rfl ?_ | refine DQ.stepc (LS.alloc 2 tabs rfl rfl rfl rfl rfl rfl) rfl rfl rfl rfl rfl ?_ | refine DQ.stepc (LS.store (i := ti24) (v := fav g) (ty := 24) (sz := 1) (rows := [ti24.zero]) (r := ti24.zero) tabs rfl rfl rfl rfl rfl rfl rfl rfl rfl rfl (Nat.le_of_ble_eq_true rfl) rfl) rfl rfl rfl rfl rfl ?_ | refine DQ.stepc (ycc 3 tabs rfl rfl rfl rfl rfl rfl rfl rfl rfl rfl rfl rfl) rfl rfl rfl rfl rfl ?_ | refine DQ.stepc (ybh (ie := ti58) (ty := 58) (sz := 36) (rows := p.L.map rowC) (rows2 := [rowC c]) tabs rfl rfl rfl rfl rfl rfl rfl rfl (List.length_map _).symm rfl rfl (fun s' hl => hl.srcOwn (by simp [Op.operands, Call.operands]) tabs rfl rfl (b := ⟨58, 36, [rowC c]⟩) rfl rfl rfl rfl (by simp [rowC, Change.iv, ti58]) (by simp [rowC, Change.iv, AV.cell])) (by simp [ti58]; omega) (by simp; omega)) rfl rfl rfl rfl rfl ?_ | refine DQ.stepc (LS.store (i := ti27) (v := .os 1 (p.L.length + 1)) (ty := 112) (sz := 3) (rows := [[.imm (.sl (g.map Node.iv)), .os 1 p.L.length, iav 0]]) (r := [.imm (.sl (g.map Node.iv)), .os 1 p.L.length, iav 0]) tabs rfl rfl rfl rfl rfl rfl rfl rfl rfl rfl (Nat.le_of_ble_eq_true rfl) rfl) rfl rfl rfl rfl rfl ?_ | refine DQ.stepc (LS.val tabs rfl rfl rfl) rfl rfl rfl rfl rfl ?_ | refine DQ.stepc (yab rfl rfl) rfl rfl rfl rfl rfl ?_ | refine DQ.nilM (by kernel_rfl) ?_) | refine yn ?_ | refine yc ?_ | refine ya ?_ | refine yf ?_ | refine yh rfl ?_ | refine yg rfl ?_ | (refine yk rfl (fun hc => ?_) (fun hc => ?_) <;> (try simp only [hsx] at hc) <;> (try first | omega | contradiction | (simp [qa] at hc; done))) | refine yo ?_ | refine yd ?_ | refine yx mixed (by kernel_rfl) ?_))
  refine yam 2 rfl rfl rfl rfl ?_ (by simp [cxG])
  simp only [qax]
  exact ⟨⟨rfl, rfl, rfl⟩, qe _ _⟩
theorem qo8 (p : PS) (c : Change) (g : List Node) (h0 : p.why = 0) (hL : p.L.length ≤ 1000000) (ha : PureC Tryz.prog 83 [fav p.F, c.av] (.tup [fav g, iav 0])) : GenC Tryz.prog 45 [⟨112, 3, [[.imm (.sl (p.F.map Node.iv)), .os 1 p.L.length, iav p.why]]⟩, ⟨58, 36, p.L.map rowC⟩] [.ptr 0 1 0 0, c.av] (bav true) [⟨112, 3, [[.imm (.sl (g.map Node.iv)), .os 1 (p.L.length + 1), iav 0]]⟩, ⟨58, 36, (p.L ++ [c]).map rowC⟩] := by
  rw [h0]
  refine yaj tabs Tryz.func45 41 [.tmp 4] rfl rfl rfl rfl rfl ?_; intro w0 X γ κ
  refine AW.reserve 24 1 rfl ?_
  refine AW.reserve 58 36 rfl ?_
  (repeat' (first | ((with_reducible show AL _ _ _ _ _); first | (refine AL.step tabs rfl ?_; try dsimp only [len, List.nil_append, List.cons_append]) | refine ym ?_) | ((with_reducible show DQ _ _ _ _ _ _); first | refine DQ.stepc (yai rfl rfl rfl rfl rfl ha rfl) rfl rfl rfl rfl rfl ?_ | refine DQ.stepc (LS.alloc 2 tabs rfl rfl rfl rfl rfl rfl) rfl rfl rfl rfl rfl ?_ | refine DQ.stepc (LS.store (i := ti24) (v := fav g) (ty := 24) (sz := 1) (rows := [ti24.zero]) (r := ti24.zero) tabs rfl rfl rfl rfl rfl rfl rfl rfl rfl rfl (Nat.le_of_ble_eq_true rfl) rfl) rfl rfl rfl rfl rfl ?_ | refine DQ.stepc (ycc 3 tabs rfl rfl rfl rfl rfl rfl rfl rfl rfl rfl rfl rfl) rfl rfl rfl rfl rfl ?_ | refine DQ.stepc (ybh (ie := ti58) (ty := 58) (sz := 36) (rows := p.L.map rowC) (rows2 := [rowC c]) tabs rfl rfl rfl rfl rfl rfl rfl rfl (List.length_map _).symm rfl rfl (fun s' hl => hl.srcOwn (by simp [Op.operands, Call.operands]) tabs rfl rfl (b := ⟨58, 36, [rowC c]⟩) rfl rfl rfl rfl (by simp [rowC, Change.iv, ti58]) (by simp [rowC, Change.iv, AV.cell])) (by simp [ti58]; omega) (by simp; omega)) rfl rfl rfl rfl rfl ?_ | refine DQ.stepc (LS.store (i := ti27) (v := .os 1 (p.L.length + 1)) (ty := 112) (sz := 3) (rows := [[.imm (.sl (g.map Node.iv)), .os 1 p.L.length, iav 0]]) (r := [.imm (.sl (g.map Node.iv)), .os 1 p.L.length, iav 0]) tabs rfl rfl rfl rfl rfl rfl rfl rfl rfl rfl (Nat.le_of_ble_eq_true rfl) rfl) rfl rfl rfl rfl rfl ?_ | refine DQ.stepc (LS.val tabs rfl rfl rfl) rfl rfl rfl rfl rfl ?_ | refine DQ.stepc (yab rfl rfl) rfl rfl rfl rfl rfl ?_ | refine DQ.nilM (by kernel_rfl) ?_) | refine yn ?_ | refine yc ?_ | refine ya ?_ | refine yf ?_ | refine yh rfl ?_ | refine yg rfl ?_ | (refine yk rfl (fun hc => ?_) (fun hc => ?_) <;> (try simp only [hsx] at hc) <;> (try first | omega | contradiction | (simp [qa] at hc; done))) | refine yo ?_ | refine yd ?_ | refine yx mixed (by kernel_rfl) ?_))
  refine yam 2 rfl rfl (by rw [List.map_append]; rfl) rfl ?_ (by simp [cxG])
  simp only [qax]
  exact ⟨⟨rfl, rfl, rfl⟩, qe _ _⟩
inductive DoR : PS → Change → PS → Bool → Prop
  | stop (p : PS) (c : Change) (h : p.why ≠ 0) : DoR p c p false
  | bad (p : PS) (c : Change) (g : List Node) (w : Int) (h0 : p.why = 0) (hw : w ≠ 0) (ha : PureC Tryz.prog 83 [fav p.F, c.av] (.tup [fav g, iav w])) : DoR p c ⟨p.F, p.L, w⟩ false
  | ok (p : PS) (c : Change) (g : List Node) (h0 : p.why = 0) (ha : PureC Tryz.prog 83 [fav p.F, c.av] (.tup [fav g, iav 0])) : DoR p c ⟨g, p.L ++ [c], 0⟩ true
theorem do_c (p q : PS) (c : Change) (b : Bool) (hL : p.L.length ≤ 1000000) (h : DoR p c q b) : GenC Tryz.prog 45 [⟨112, 3, [[.imm (.sl (p.F.map Node.iv)), .os 1 p.L.length, iav p.why]]⟩, ⟨58, 36, p.L.map rowC⟩] [.ptr 0 1 0 0, c.av] (bav b) [⟨112, 3, [[.imm (.sl (q.F.map Node.iv)), .os 1 q.L.length, iav q.why]]⟩, ⟨58, 36, q.L.map rowC⟩] := by
  cases h with
  | stop h => exact qo6 p c h
  | bad g w h0 hw ha => exact qo7 p c g w h0 hw ha
  | ok g h0 ha =>
    have := qo8 p c g h0 hL ha
    rw [show p.L.length + 1 = (p.L ++ [c]).length by simp] at this
    exact this
theorem renC (ρ : Nat → Nat) (ty sz : Nat) (l : List Change) : renB ρ ⟨ty, sz, l.map rowC⟩ = ⟨ty, sz, l.map rowC⟩ := qk (k := 0) (rho0 rfl) (qe l 0)
def mkX (p : PS) (b : Bool) : Int := match b with
  | true => p.F.length + 1
  | false => 0
def rawMk (node : Int) (n : Node) : AV := .agg [kav 1, iav node, iav 0, iav 0, iav 0, iav 0, iav 0, iav 0, .nils, sav es, sav es, sav es, sav es, sav es, bav false, bav false, kav n.kind, sav n.name.sp, sav n.name.pf, sav n.name.lc, sav n.pub, sav n.sys, .imm (.sl (n.data.map u16)), .imm (.sl (n.attrs.map Attr.iv)), iav n.parent, .imm (.sl (n.kids.map i64)), iav n.doc, iav n.host, iav n.shadow, kav n.mode, bav n.manual, bav n.html, .nils, .nils, iav 0, iav 0]
def rawIn (node parent index : Int) : AV := .agg [kav 2, iav node, iav parent, iav index, iav 0, iav 0, iav 0, iav 0, .nils, sav es, sav es, sav es, sav es, sav es, bav false, bav false, kav 0, sav es, sav es, sav es, sav es, sav es, .nils, .nils, iav 0, .nils, iav 0, iav 0, iav 0, kav 0, bav false, bav false, .nils, .nils, iav 0, iav 0]
theorem GenC.cv {P : Program} {f : FuncId} {hp0 hp1 : List Blk} {aa ab : List AV} {r : AV} (h : GenC P f hp0 aa r hp1) (e : ab.map A.cv = aa) : GenC P f hp0 ab r hp1 :=
  ⟨h.1, fun W X γ κ xs hC hx => h.2 W X γ κ xs hC (by rw [← e]; exact qmo hx)⟩
theorem qoq (p q : PS) (n : Node) (b : Bool) (hl : p.F.length ≤ 1000000000) (hL : p.L.length ≤ 1000000) (h : DoR p (mkCh (p.F.length + 1) n) q b) : GenC Tryz.prog 43 [⟨112, 3, [[.imm (.sl (p.F.map Node.iv)), .os 1 p.L.length, iav p.why]]⟩, ⟨58, 36, p.L.map rowC⟩] [.ptr 0 1 0 0, n.av] (iav (mkX p b)) [⟨112, 3, [[.imm (.sl (q.F.map Node.iv)), .os 1 q.L.length, iav q.why]]⟩, ⟨58, 36, q.L.map rowC⟩] := by
  have hdo : GenC Tryz.prog 45 _ [.ptr 0 1 0 0, rawMk (p.F.length + 1) n] _ _ := GenC.cv (do_c p q _ b hL h) rfl
  have hm : (p.F.map Node.iv).length = p.F.length := List.length_map _
  rw [← hm] at hdo
  refine yaj tabs Tryz.func43 20 [.tmp 4] rfl rfl rfl rfl rfl ?_; intro w0 X γ κ
  (repeat' (first | ((with_reducible show AL _ _ _ _ _); first | (refine AL.step tabs rfl ?_; try dsimp only [len, List.nil_append, List.cons_append]) | (refine AL.op rfl (yi rfl rfl rfl rfl rfl (by omega) (by omega)) ?_) | refine yac [0, 1] 3 rfl rfl rfl rfl rfl (caps := []) rfl hdo rfl (by simp only [List.map_cons, List.map_nil, renC]; rfl) rfl rfl (by simp only [qax]; exact ⟨⟨rfl, rfl, rfl⟩, qe _ _⟩) rfl (by simp only [qax]; exact ⟨⟨rfl, rfl, rfl⟩, qe _ _⟩) rfl (hpA := [⟨112, 3, [[.imm (.sl (q.F.map Node.iv)), .os 1 q.L.length, iav q.why]]⟩, ⟨58, 36, q.L.map rowC⟩]) (by simp only [List.map_cons, List.map_nil, renC]; rfl) (r' := bav b) rfl rfl ?_ | refine ym ?_ | (refine AL.op rfl (yi rfl rfl rfl rfl rfl (by omega) (by omega)) ?_)) | refine yn ?_ | refine yc ?_ | refine ya ?_ | refine yf ?_ | refine yh rfl ?_ | refine yg rfl ?_ | (refine yk rfl (fun hc => ?_) (fun hc => ?_) <;> (try simp only [hsx] at hc) <;> (try first | omega | contradiction | (simp [qa] at hc; done))) | refine yo ?_ | refine yd ?_))
  all_goals
    try simp only [Bool.not_eq_true', Bool.not_eq_false'] at hc
    subst hc
    refine yam 2 rfl (by try rw [hm]
                         rfl) rfl rfl ?_ (by simp [cxG])
    simp only [qax]
    exact ⟨⟨rfl, rfl, rfl⟩, qe _ _⟩
theorem qmz (p : PS) (h : p.why ≠ 0) : GenC Tryz.prog 48 [⟨112, 3, [[.imm (.sl (p.F.map Node.iv)), .os 1 p.L.length, iav p.why]]⟩, ⟨58, 36, p.L.map rowC⟩] [.ptr 0 1 0 0] (.tup [.agg [.nils], .nils, iav p.why]) [⟨112, 3, [[.imm (.sl (p.F.map Node.iv)), .os 1 p.L.length, iav p.why]]⟩, ⟨58, 36, p.L.map rowC⟩] := by
  refine yaj tabs Tryz.func48 55 [.cell 2 24, .tmp 3, .tmp 4] rfl rfl rfl rfl rfl ?_; intro w0 X γ κ
  (repeat' (first | ((with_reducible show AL _ _ _ _ _); first | (refine AL.step tabs rfl ?_; try dsimp only [len, List.nil_append, List.cons_append]) | refine ym ?_ | (refine AL.op rfl (yi rfl rfl rfl rfl rfl (by omega) (by omega)) ?_) | (refine AL.op rfl (ye tabs rfl rfl rfl rfl rfl rfl rfl (fun _ => rfl) (by decide) (by omega) (by omega)) ?_)) | ((with_reducible show DQ _ _ _ _ _ _); first | refine DQ.stepc (LS.store (i := ti24) (v := .agg [.nils]) (ty := 24) (sz := 1) (rows := [ti24.zero]) (r := ti24.zero) tabs rfl rfl rfl rfl rfl rfl rfl rfl rfl rfl (Nat.le_of_ble_eq_true rfl) rfl) rfl rfl rfl rfl rfl ?_ | refine DQ.stepc (LS.val tabs rfl rfl rfl) rfl rfl rfl rfl rfl ?_ | refine DQ.stepc (yab rfl rfl) rfl rfl rfl rfl rfl ?_ | refine DQ.nilM (by kernel_rfl) ?_ | refine DQ.stepc (yaf rfl rfl rfl rfl rfl rfl (by omega) (by omega)) rfl rfl rfl rfl rfl ?_ | refine DQ.stepc (yaa tabs rfl rfl rfl rfl rfl rfl rfl rfl (fun _ => rfl) (by decide) (by omega) (by omega)) rfl rfl rfl rfl rfl ?_) | refine yn ?_ | refine yc ?_ | refine ya ?_ | refine yf ?_ | refine AW.block ?_ | refine yt ?_ | refine yh rfl ?_ | refine yg rfl ?_ | (refine yk rfl (fun hc => ?_) (fun hc => ?_) <;> (try simp only [hsx] at hc) <;> (try first | omega | contradiction | (simp [qa] at hc; done))) | refine yo ?_ | refine yy ?_ | refine yd ?_ | refine yp ?_ | refine yw ?_ | refine yr ?_ | refine InB.off rfl ?_ | refine yz ?_ | refine yu ?_ | refine yx mixed (by kernel_rfl) ?_))
  refine yam 2 rfl rfl rfl rfl ?_ (by simp [cxG])
  simp only [qax]
  exact ⟨⟨rfl, rfl, rfl⟩, qe _ _⟩
theorem qor (p : PS) (h : p.why = 0) (hL : p.L.length ≤ 1000000) (hL0 : p.L ≠ []) (hfc : ∀ i : Int, 0 ≤ i → i < p.L.length → FitC (atI p.L i)) : GenC Tryz.prog 48 [⟨112, 3, [[.imm (.sl (p.F.map Node.iv)), .os 1 p.L.length, iav p.why]]⟩, ⟨58, 36, p.L.map rowC⟩] [.ptr 0 1 0 0] (.tup [fav p.F, .os 3 p.L.length, iav 0]) [⟨112, 3, [[.imm (.sl (p.F.map Node.iv)), .os 1 p.L.length, iav p.why]]⟩, ⟨58, 36, p.L.map rowC⟩, ⟨24, 1, [[.imm (.sl (p.F.map Node.iv))]]⟩, ⟨58, 36, p.L.map rowC⟩] := by
  rw [h]
  have hpos : 0 < p.L.length := List.length_pos_iff.2 hL0
  have hCl : (p.L.map rowC).length = p.L.length := List.length_map _
  refine yaj tabs Tryz.func48 55 [.cell 2 24, .tmp 3, .tmp 4] rfl rfl rfl rfl rfl ?_; intro w0 X γ κ
  (repeat' (first | ((with_reducible show AL _ _ _ _ _); first | (refine AL.step tabs rfl ?_; try dsimp only [len, List.nil_append, List.cons_append]) | refine yad rfl (yau (b := ⟨58, 36, p.L.map rowC⟩) tabs rfl rfl rfl rfl rfl rfl hCl.symm) rfl ?_ | refine yad rfl (ycg (ie := ti58) tabs rfl rfl rfl rfl rfl rfl rfl (by omega) (by omega) (by omega) (by decide) rfl (by simp only [ti58]; omega)) rfl ?_ | refine ym ?_ | (refine AL.op rfl (yi rfl rfl rfl rfl rfl (by omega) (by omega)) ?_) | (refine AL.op rfl (ye tabs rfl rfl rfl rfl rfl rfl rfl (fun _ => rfl) (by decide) (by omega) (by omega)) ?_)) | ((with_reducible show DQ _ _ _ _ _ _); first | refine DQ.stepc (LS.val tabs rfl rfl rfl) rfl rfl rfl rfl rfl ?_ | refine DQ.stepc (yab rfl rfl) rfl rfl rfl rfl rfl ?_ | refine DQ.nilM (by kernel_rfl) ?_ | refine DQ.stepc (yaf rfl rfl rfl rfl rfl rfl (by omega) (by omega)) rfl rfl rfl rfl rfl ?_ | refine DQ.stepc (yaa tabs rfl rfl rfl rfl rfl rfl rfl rfl (fun _ => rfl) (by decide) (by omega) (by omega)) rfl rfl rfl rfl rfl ?_) | refine yn ?_ | refine yc ?_ | refine ya ?_ | refine yf ?_ | refine AW.block ?_ | refine yt ?_ | refine yh rfl ?_ | refine yg rfl ?_ | (refine yk rfl (fun hc => ?_) (fun hc => ?_) <;> (try simp only [hsx] at hc) <;> (try first | omega | contradiction | (simp [qa] at hc; done))) | refine yo ?_ | refine yy ?_ | refine yd ?_ | refine yp ?_ | refine yw ?_ | refine yr ?_ | refine InB.off rfl ?_ | refine yz ?_ | refine yu ?_ | refine yx mixed (by kernel_rfl) ?_))
  refine yak (α := Int) (fun i => ⟨[(0, .ptr 0 1 0 0), (2, .ptr 2 1 0 0), (5, .os 3 (p.L.take i.toNat).length), (38, .os 1 p.L.length), (39, iav p.L.length), (40, iav i)], [⟨112, 3, [[.imm (.sl (p.F.map Node.iv)), .os 1 p.L.length, iav 0]]⟩, ⟨58, 36, p.L.map rowC⟩, ⟨24, 1, [[.nils]]⟩, ⟨58, 36, (p.L.take i.toNat).map rowC⟩]⟩) (fun i => 0 ≤ i ∧ i ≤ p.L.length) (fun i => (p.L.length - i).toNat) 0 (yae 4 rfl (by repeat' (first | exact trivial | refine ⟨rfl, ?_⟩)) rfl (by simp only [qax]; exact ⟨⟨rfl, rfl, rfl⟩, qe _ _, rfl, qe _ _⟩) (by simp [cxG])) ⟨by omega, by omega⟩ ?_
  intro i ⟨h0, h1⟩
  (repeat' (first | ((with_reducible show AL _ _ _ _ _); first | (refine AL.step tabs rfl ?_; try dsimp only [len, List.nil_append, List.cons_append]) | refine yad rfl (yan (b := ⟨58, 36, p.L.map rowC⟩) tabs rfl rfl rfl rfl rfl rfl rfl rfl hCl.symm rfl (by omega) (by omega)) rfl ?_ | refine yad rfl (ya8 (i := ti58) (g := rowC) (xs := p.L) (v := (atI p.L i).av) tabs rfl rfl rfl rfl rfl rfl (by omega) (by omega) rfl) rfl ?_ | refine AL.op rfl (yb rfl rfl rfl rfl (qgr (atI p.L i) (hfc i (by omega) (by omega))) rfl) ?_ | refine yad rfl (yar (ie := ti58) (xs := p.L.take i.toNat) (ys := [atI p.L i]) (g := rowC) (ty := 58) (sz := 36) tabs rfl rfl rfl rfl rfl rfl rfl rfl rfl rfl (SrcA.own tabs rfl rfl rfl (b := ⟨58, 36, [atI p.L i].map rowC⟩) rfl rfl rfl (by simp [rowC, Change.iv, ti58]) (by simp [rowC, Change.iv, AV.cell])) (by simp [ti58]; omega) (by simp; omega)) rfl ?_ | refine ym ?_ | (refine AL.op rfl (yi rfl rfl rfl rfl rfl (by omega) (by omega)) ?_) | (refine AL.op rfl (ye tabs rfl rfl rfl rfl rfl rfl rfl (fun _ => rfl) (by decide) (by omega) (by omega)) ?_)) | ((with_reducible show DQ _ _ _ _ _ _); first | refine DQ.stepc (LS.val tabs rfl rfl rfl) rfl rfl rfl rfl rfl ?_ | refine DQ.stepc (yab rfl rfl) rfl rfl rfl rfl rfl ?_ | refine DQ.nilM (by kernel_rfl) ?_ | refine DQ.stepc (yaf rfl rfl rfl rfl rfl rfl (by omega) (by omega)) rfl rfl rfl rfl rfl ?_ | refine DQ.stepc (yaa tabs rfl rfl rfl rfl rfl rfl rfl rfl (fun _ => rfl) (by decide) (by omega) (by omega)) rfl rfl rfl rfl rfl ?_) | refine yn ?_ | refine yc ?_ | refine ya ?_ | refine yf ?_ | refine AW.block ?_ | refine yt ?_ | refine yh rfl ?_ | refine yg rfl ?_ | (refine yk rfl (fun hc => ?_) (fun hc => ?_) <;> (try simp only [hsx] at hc) <;> (try first | omega | contradiction | (simp [qa] at hc; done))) | refine yo ?_ | refine yy ?_ | refine yd ?_ | refine yp ?_ | refine yw ?_ | refine yr ?_ | refine InB.off rfl ?_ | refine yz ?_ | refine yu ?_ | refine yx mixed (by kernel_rfl) ?_))
  · refine yag (i + 1) (yae 4 (by rw [qi h0 (by assumption)]; rfl) ⟨rfl, rfl, by rw [qi h0 (by assumption)]; rfl, rfl, rfl, rfl, trivial⟩ rfl (by simp only [qax]; exact ⟨⟨rfl, rfl, rfl⟩, qe _ _, rfl, qe _ _⟩) (by simp [cxG])) ⟨by omega, by omega⟩ (by omega)
  · have e : p.L.take i.toNat = p.L := qq hc
    refine yam 4 rfl (by rw [e]; rfl) (by rw [e]; rfl) rfl ?_ (by simp [cxG])
    simp only [qax]
    exact ⟨⟨rfl, rfl, rfl⟩, qe _ _, rfl, qe _ _⟩
def idxGo : List Int → Int → Int → Int
  | [], _, _ => -1
  | y :: l, x, k => if x = y then k else idxGo l x (k + 1)
def idx (l : List Int) (x : Int) : Int := idxGo l x 0
theorem qfb : ∀ (l : List Int) (x k : Int), 0 ≤ k → -1 ≤ idxGo l x k ∧ idxGo l x k < k + l.length ∨ (l = [] ∧ idxGo l x k = -1)
  | [], _, _, _ => .inr ⟨rfl, rfl⟩
  | y :: l, x, k, hk => by
    refine .inl ?_
    unfold idxGo
    split
    · simp only [List.length_cons]; omega
    · rcases qfb l x (k + 1) (by omega) with h | ⟨_, h⟩
      · simp only [List.length_cons]; omega
      · rw [h]; simp only [List.length_cons]; omega
theorem qm0 (l : List Int) (x : Int) : -1 ≤ idx l x := by
  rcases qfb l x 0 (by omega) with h | ⟨_, h⟩
  · exact h.1
  · unfold idx; rw [h]; omega
theorem qjn (l : List Int) (x : Int) : idx l x < l.length ∨ idx l x = -1 := by
  rcases qfb l x 0 (by omega) with h | ⟨_, h⟩
  · left; have := h.2; unfold idx; omega
  · right; exact h
theorem qjo (l : List Int) (x : Int) (hl : l.length ≤ 1000000000) : PureC Tryz.prog 82 [.imm (.sl (l.map i64)), iav x] (iav (idx l x)) := by
  refine yq tabs Tryz.func82 19 [.tmp 4] rfl rfl rfl rfl rfl ?_; intro w0 X
  (repeat' (first | ((with_reducible show AL _ _ _ _ _); first | (refine AL.step tabs rfl ?_; try dsimp only [len, List.nil_append, List.cons_append]) | refine ym ?_ | (refine AL.op rfl (yi rfl rfl rfl rfl rfl (by omega) (by omega)) ?_) | (refine AL.op rfl (ye tabs rfl rfl rfl rfl rfl rfl rfl (fun _ => rfl) (by decide) (by omega) (by omega)) ?_)) | fail | refine yn ?_ | refine yc ?_ | refine ya ?_ | refine yf ?_ | refine AW.block ?_ | refine yt ?_ | refine yh rfl ?_ | refine yg rfl ?_ | (refine yk rfl (fun hc => ?_) (fun hc => ?_) <;> (try simp only [hsx] at hc) <;> (try first | omega | contradiction | (simp [qa] at hc; done))) | refine yo ?_ | refine yy ?_ | refine yd ?_ | refine yp ?_ | refine yw ?_ | refine yr ?_ | refine InB.off rfl ?_ | refine yz ?_ | refine yu ?_))
  refine yak (α := Int) (fun i => ⟨[(0, .imm (.sl (l.map i64))), (1, iav x), (7, iav (l.map i64).length), (8, iav i)], []⟩) (fun i => 0 ≤ i ∧ i ≤ l.length ∧ idx l x = idxGo (l.drop i.toNat) x i) (fun i => (l.length - i).toNat) 0 (yae 0 rfl (by repeat' (first | exact trivial | refine ⟨rfl, ?_⟩)) rfl rfl (Nat.zero_le _)) ⟨by omega, by omega, rfl⟩ ?_
  intro i ⟨h0, h1, h2⟩
  (repeat' (first | ((with_reducible show AL _ _ _ _ _); first | (refine AL.step tabs rfl ?_; try dsimp only [len, List.nil_append, List.cons_append]) | refine ym ?_ | (refine AL.op rfl (yi rfl rfl rfl rfl rfl (by omega) (by omega)) ?_) | (refine AL.op rfl (ye tabs rfl rfl rfl rfl rfl rfl rfl (fun _ => rfl) (by decide) (by omega) (by omega)) ?_)) | refine yn ?_ | refine yc ?_ | refine ya ?_ | refine yf ?_ | refine AW.block ?_ | refine yt ?_ | refine yh rfl ?_ | refine yg rfl ?_ | (refine yk rfl (fun hc => ?_) (fun hc => ?_) <;> (try simp only [hsx] at hc) <;> (try first | omega | contradiction | (simp [qa] at hc; done))) | refine yo ?_ | refine yy ?_ | refine yd ?_ | refine yp ?_ | refine yw ?_ | refine yr ?_ | refine InB.off rfl ?_ | refine yz ?_ | refine yu ?_))
  · rw [qd h0 (by assumption)] at h2
    unfold idxGo at h2
    rw [if_pos hc] at h2
    rw [h2]
    exact RQ.fin rfl rfl rfl
  · rw [qd h0 (by assumption)] at h2
    unfold idxGo at h2
    rw [if_neg hc] at h2
    exact yag (i + 1) (yae 0 rfl (by repeat' (first | exact trivial | refine ⟨rfl, ?_⟩)) rfl rfl (Nat.zero_le _)) ⟨by omega, by omega, h2⟩ (by omega)
  · rw [List.drop_eq_nil_of_le (by omega)] at h2
    rw [h2]
    exact RQ.fin rfl rfl rfl
noncomputable def besideP (f : List Node) (h b : Int) : Int :=
  if (nodeAt f h).parent = 0 then 0 else if idx (nodeAt f (nodeAt f h).parent).kids h + b < 0 ∨ (nodeAt f (nodeAt f h).parent).kids.length ≤ idx (nodeAt f (nodeAt f h).parent).kids h + b then 0 else atI (nodeAt f (nodeAt f h).parent).kids (idx (nodeAt f (nodeAt f h).parent).kids h + b)
def placeP (f : List Node) (h : Int) : Int := max (idx (nodeAt f (nodeAt f h).parent).kids h) 0
theorem qc0 (f : List Node) (h b : Int) (hf : Fit f) (hb0 : -1000 ≤ b) (hb1 : b ≤ 1000) : PureC Tryz.prog 44 [fav f, iav h, iav b] (iav (besideP f h b)) := by
  have hl := hf.len
  obtain ⟨q, hq⟩ : ∃ q, q = (nodeAt f h).parent := ⟨_, rfl⟩
  obtain ⟨n, hn⟩ : ∃ n, n = nodeAt f q := ⟨_, rfl⟩
  have hk : n.kids.length ≤ 1000000000 := by rw [hn]; exact (hf.at q).kids
  have hml : (n.kids.map i64).length = n.kids.length := List.length_map _
  have h3 := qm0 n.kids h
  have h4 := qjn n.kids h
  have e : besideP f h b = if q = 0 then 0 else if idx n.kids h + b < 0 ∨ (n.kids.length : Int) ≤ idx n.kids h + b then 0 else atI n.kids (idx n.kids h + b) := by unfold besideP; rw [← hq, ← hn]
  have c1 := qz f h hl
  have c2 := qz f q hl
  rw [← hn] at c2
  obtain ⟨m, hm⟩ : ∃ m, m = nodeAt f h := ⟨_, rfl⟩
  rw [← hm] at hq c1
  subst hq
  rw [e]
  refine yq tabs Tryz.func44 37 [.tmp 6] rfl rfl rfl rfl rfl ?_; intro w0 X
  (repeat' (first | ((with_reducible show AL _ _ _ _ _); first | (refine AL.step tabs rfl ?_; try dsimp only [len, List.nil_append, List.cons_append]) | refine AL.op rfl (yb rfl rfl rfl rfl c1 rfl) ?_ | refine AL.op rfl (yb rfl rfl rfl rfl c2 rfl) ?_ | refine AL.op rfl (yb rfl rfl rfl rfl (qjo n.kids h hk) rfl) ?_ | refine ym ?_ | (refine yj rfl rfl rfl (fun hc => ?_) (fun hc => ?_) <;> (fail_if_success (exact absurd hc (by decide))) <;> (try simp only [hsx] at hc) <;> (try first | omega | contradiction | (simp [qa] at hc; done))) | (refine AL.op rfl (yi rfl rfl rfl rfl rfl (by omega) (by omega)) ?_) | (refine AL.op rfl (ye tabs rfl rfl rfl rfl rfl rfl rfl (fun _ => rfl) (by decide) (by omega) (by omega)) ?_)) | refine yn ?_ | refine yc ?_ | refine ya ?_ | refine yf ?_ | refine yh rfl ?_ | refine yg rfl ?_ | (refine yk rfl (fun hc => ?_) (fun hc => ?_) <;> (try simp only [hsx] at hc) <;> (try first | omega | contradiction | (simp [qa] at hc; done))) | refine yo ?_ | refine yd ?_))
  all_goals first
    | (rw [if_pos (by omega)]; exact RQ.fin rfl rfl rfl)
    | (rw [if_neg (by omega), if_pos (by omega)]; exact RQ.fin rfl rfl rfl)
    | (rw [if_neg (by omega), if_neg (by omega)]; exact RQ.fin rfl rfl rfl)
theorem qnr (f : List Node) (h : Int) (hf : Fit f) : PureC Tryz.prog 46 [fav f, iav h] (iav (placeP f h)) := by
  have hl := hf.len
  have c1 := qz f h hl
  have c2 := qz f (nodeAt f h).parent hl
  have c3 := qjo (nodeAt f (nodeAt f h).parent).kids h (hf.at _).kids
  refine yq tabs Tryz.func46 15 [.tmp 4] rfl rfl rfl rfl rfl ?_; intro w0 X
  (repeat' (first | ((with_reducible show AL _ _ _ _ _); first | (refine AL.step tabs rfl ?_; try dsimp only [len, List.nil_append, List.cons_append]) | refine ym ?_) | ((with_reducible show DQ _ _ _ _ _ _); first | refine DQ.stepc (yai rfl rfl rfl rfl rfl c1 rfl) rfl rfl rfl rfl rfl ?_ | refine DQ.stepc (yai rfl rfl rfl rfl rfl c2 rfl) rfl rfl rfl rfl rfl ?_ | refine DQ.stepc (yai rfl rfl rfl rfl rfl c3 rfl) rfl rfl rfl rfl rfl ?_ | refine DQ.stepc (LS.max2 rfl rfl rfl rfl rfl) rfl rfl rfl rfl rfl ?_ | refine DQ.stepc (LS.val tabs rfl rfl rfl) rfl rfl rfl rfl rfl ?_ | refine DQ.stepc (yab rfl rfl) rfl rfl rfl rfl rfl ?_ | refine DQ.nilM (by kernel_rfl) ?_) | refine yn ?_ | refine yc ?_ | refine ya ?_ | refine yf ?_ | refine yo ?_ | refine yd ?_ | refine yx mixed (by kernel_rfl) ?_))
  all_goals first
    | exact RQ.fin rfl rfl rfl
def u32 (n : Int) : AV := .imm (.int .u32 n)
def spTo (n : Nat) (off cnt : Int) : Int := off + min cnt (n - off)
theorem qm1 (l : List Int) (off cnt : Int) (h0 : 0 ≤ off) (h1 : off < 4294967296) (h2 : 0 ≤ cnt) (h3 : cnt < 4294967296) (hl : l.length ≤ 1000000000) : PureC Tryz.prog 81 [.imm (.sl (l.map u16)), u32 off, u32 cnt] (.tup [iav (if off ≤ l.length then off else 0), iav (if off ≤ l.length then spTo l.length off cnt else 0), bav (dec (off ≤ l.length))]) := by
  have hml : (l.map u16).length = l.length := List.length_map _
  refine yq tabs Tryz.func81 30 [.tmp 6, .tmp 7, .tmp 8] rfl rfl rfl rfl rfl ?_; intro w0 X
  (repeat' (first | ((with_reducible show AL _ _ _ _ _); first | refine AL.op rfl (OpOK.toU64 tabs rfl rfl rfl rfl rfl rfl (by omega) (by omega)) ?_ | refine AL.op rfl (ybn tabs rfl rfl rfl rfl rfl rfl (by omega) (by omega)) ?_ | refine AL.op rfl (OpOK.min2 rfl rfl rfl rfl) ?_ | (refine AL.step tabs rfl ?_; try dsimp only [len, List.nil_append, List.cons_append]) | refine ym ?_ | (refine AL.op rfl (yi rfl rfl rfl rfl rfl (by omega) (by omega)) ?_)) | refine yn ?_ | refine yc ?_ | refine ya ?_ | refine yf ?_ | refine yh rfl ?_ | refine yg rfl ?_ | (refine yk rfl (fun hc => ?_) (fun hc => ?_) <;> (try simp only [hsx] at hc) <;> (try first | omega | contradiction | (simp [qa] at hc; done))) | refine yo ?_ | refine yd ?_))
  · rw [if_neg (by omega), if_neg (by omega), show dec (off ≤ (l.length : Int)) = false by rw [qg]; omega]; exact RQ.fin rfl rfl rfl
  · rw [if_pos (by omega), if_pos (by omega), show dec (off ≤ (l.length : Int)) = true by rw [qb]; omega]
    unfold spTo
    rw [← hml]
    exact RQ.fin rfl rfl rfl
def subP (l : List Int) (off cnt : Int) : List Int := (l.take (spTo l.length off cnt).toNat).drop off.toNat
theorem qns (l : List Int) (off cnt : Int) (h0 : 0 ≤ off) (h1 : off < 4294967296) (h2 : 0 ≤ cnt) (h3 : cnt < 4294967296) (hl : l.length ≤ 1000000000) : PureC Tryz.prog 41 [.imm (.sl (l.map u16)), u32 off, u32 cnt] (.tup [.imm (.sl ((if off ≤ l.length then subP l off cnt else []).map u16)), iav (if off ≤ l.length then 0 else 14)]) := by
  have hml : (l.map u16).length = l.length := List.length_map _
  have c1 := qm1 l off cnt h0 h1 h2 h3 hl
  by_cases h : off ≤ l.length
  · rw [if_pos h, if_pos h]
    rw [if_pos h, if_pos h, show dec (off ≤ (l.length : Int)) = true by rw [qb]; exact h] at c1
    have hs0 : off ≤ spTo l.length off cnt := by unfold spTo; omega
    have hs1 : spTo l.length off cnt ≤ l.length := by unfold spTo; omega
    have hsl : (subP l off cnt).length ≤ 1000000000 := by unfold subP; simp only [List.length_drop, List.length_take]; omega
    refine yq tabs Tryz.func41 26 [.tmp 6, .tmp 7] rfl rfl rfl rfl rfl ?_; intro w0 X
    (repeat' (first | ((with_reducible show AL _ _ _ _ _); first | (refine AL.step tabs rfl ?_; try dsimp only [len, List.nil_append, List.cons_append]) | refine AL.op rfl (yb rfl rfl rfl rfl c1 rfl) ?_ | refine AL.op rfl (yay (i := ti36) (ie := ti55) (e := 55) (f := u16) (xs := l) (l := off) (h := spTo l.length off cnt) tabs rfl rfl rfl rfl rfl rfl rfl rfl (fun _ => rfl) (by omega) (by omega) (by omega)) ?_ | refine yad rfl (yap (ie := ti55) tabs rfl rfl rfl rfl rfl (by decide) rfl (SrcA.imm (rows := (subP l off cnt).map u16) tabs rfl rfl rfl (by simp [u16, ti55])) (by simp [ti55]; omega) (by simp; omega)) rfl ?_ | refine ym ?_) | refine yn ?_ | refine yc ?_ | refine ya ?_ | refine yf ?_ | refine yh rfl ?_ | refine yg rfl ?_ | (refine yk rfl (fun hc => ?_) (fun hc => ?_) <;> (try simp only [hsx] at hc) <;> (try first | omega | contradiction | (simp [qa] at hc; done))) | refine yo ?_ | refine yd ?_))
    all_goals first
      | exact yao rfl (ya0 (.cons (Fz.os (b := ⟨55, 1, ((subP l off cnt).map u16).map (·.map .imm)⟩) (rows := (subP l off cnt).map u16) rfl rfl rfl) (.cons (Fz.im rfl) .nil)))
  · rw [if_neg h, if_neg h]
    rw [if_neg h, if_neg h, show dec (off ≤ (l.length : Int)) = false by rw [qg]; exact h] at c1
    refine yq tabs Tryz.func41 26 [.tmp 6, .tmp 7] rfl rfl rfl rfl rfl ?_; intro w0 X
    (repeat' (first | ((with_reducible show AL _ _ _ _ _); first | (refine AL.step tabs rfl ?_; try dsimp only [len, List.nil_append, List.cons_append]) | refine AL.op rfl (yb rfl rfl rfl rfl c1 rfl) ?_ | refine ym ?_) | refine yn ?_ | refine yc ?_ | refine ya ?_ | refine yf ?_ | refine yh rfl ?_ | refine yg rfl ?_ | (refine yk rfl (fun hc => ?_) (fun hc => ?_) <;> (try simp only [hsx] at hc) <;> (try first | omega | contradiction | (simp [qa] at hc; done))) | refine yo ?_ | refine yd ?_))
    all_goals first
      | exact RQ.fin rfl rfl rfl
def replL (l : List Int) (a b : Int) (v : List Int) : List Int := l.take a.toNat ++ v ++ l.drop b.toNat
def replP (l : List Int) (off cnt : Int) (v : List Int) : List Int × Int :=
  if (l.length : Int) < off then ([], 14) else if 16384 < (l.length : Int) - (spTo l.length off cnt - off) + v.length then ([], 4) else (replL l off (spTo l.length off cnt) v, 0)
theorem qfc (l : List Int) : ∀ r ∈ l.map u16, r.length = ti55.sz := fun r hr => by
  obtain ⟨q, _, rfl⟩ := List.mem_map.1 hr
  rfl
theorem qos (l : List Int) (off cnt : Int) (v : List Int) (h0 : 0 ≤ off) (h1 : off < 4294967296) (h2 : 0 ≤ cnt) (h3 : cnt < 4294967296) (hl : l.length ≤ 1000000000) (hv : v.length ≤ 1000000000) : PureC Tryz.prog 84 [.imm (.sl (l.map u16)), u32 off, u32 cnt, .imm (.sl (v.map u16))] (.tup [.imm (.sl ((replP l off cnt v).1.map u16)), iav (replP l off cnt v).2]) := by
  have hml : (l.map u16).length = l.length := List.length_map _
  have hmv : (v.map u16).length = v.length := List.length_map _
  have c1 := qm1 l off cnt h0 h1 h2 h3 hl
  by_cases h : off ≤ l.length
  · rw [if_pos h, if_pos h, show dec (off ≤ (l.length : Int)) = true by rw [qb]; exact h] at c1
    have hs0 : off ≤ spTo l.length off cnt := by unfold spTo; omega
    have hs1 : spTo l.length off cnt ≤ l.length := by unfold spTo; omega
    unfold replP
    rw [if_neg (by omega)]
    obtain ⟨to, hto⟩ : ∃ to, to = spTo l.length off cnt := ⟨_, rfl⟩
    rw [← hto] at c1 hs0 hs1 ⊢
    refine yq tabs Tryz.func84 48 [.tmp 8, .tmp 9] rfl rfl rfl rfl rfl ?_; intro w0 X
    (repeat' (first | ((with_reducible show AL _ _ _ _ _); first | (refine AL.step tabs rfl ?_; try dsimp only [len, List.nil_append, List.cons_append]) | refine AL.op rfl (yb rfl rfl rfl rfl c1 rfl) ?_ | refine yad rfl (yay (i := ti36) (ie := ti55) (e := 55) (f := u16) (xs := l) (l := 0) (h := off) tabs rfl rfl rfl rfl rfl rfl rfl rfl (fun _ => rfl) (by omega) (by omega) (by omega)) rfl ?_ | refine yad rfl (yay (i := ti36) (ie := ti55) (e := 55) (f := u16) (xs := l) (l := to) (h := l.length) tabs rfl rfl rfl rfl rfl rfl rfl rfl (fun _ => rfl) (by omega) (by omega) (by omega)) rfl ?_ | refine yad rfl (yap (ie := ti55) tabs rfl rfl rfl rfl rfl (by decide) rfl (SrcA.imm (rows := ((l.take off.toNat).drop (0 : Int).toNat).map u16) tabs rfl rfl rfl (qfc _)) (by simp [ti55]; omega) (by simp; omega)) rfl ?_ | refine yad (h1 := [⟨55, 1, (((l.take off.toNat).drop (0 : Int).toNat).map u16).map (·.map .imm) ++ (v.map u16).map (·.map .imm)⟩]) rfl (yal (ie := ti55) (b := ⟨55, 1, (((l.take off.toNat).drop (0 : Int).toNat).map u16).map (·.map .imm)⟩) tabs rfl rfl rfl rfl rfl rfl rfl rfl rfl rfl (SrcA.imm (rows := v.map u16) tabs rfl rfl rfl (qfc _)) (by simp [ti55]; omega) (by simp; omega)) rfl ?_ | refine yad rfl (yal (ie := ti55) (b := ⟨55, 1, (((l.take off.toNat).drop (0 : Int).toNat).map u16).map (·.map .imm) ++ (v.map u16).map (·.map .imm)⟩) tabs rfl rfl rfl rfl rfl rfl rfl List.length_append.symm rfl rfl (SrcA.imm (rows := ((l.take (l.length : Int).toNat).drop to.toNat).map u16) tabs rfl rfl rfl (qfc _)) (by simp [ti55]; omega) (by simp; omega)) rfl ?_ | refine ym ?_ | (refine AL.op rfl (yi rfl rfl rfl rfl rfl (by omega) (by omega)) ?_)) | refine yn ?_ | refine yc ?_ | refine ya ?_ | refine yf ?_ | refine AW.block ?_ | refine yt ?_ | refine yh rfl ?_ | refine yg rfl ?_ | (refine yk rfl (fun hc => ?_) (fun hc => ?_) <;> (try simp only [hsx] at hc) <;> (try first | omega | contradiction | (simp [qa] at hc; done))) | refine yo ?_ | refine yy ?_ | refine yd ?_ | refine yp ?_ | refine yw ?_ | refine yr ?_ | refine InB.off rfl ?_))
    all_goals first
      | (rw [if_pos (by omega)]; exact RQ.fin rfl rfl rfl)
      | (rw [if_neg (by omega)]; exact yao rfl (ya0 (.cons (Fz.os (rows := (replL l off to v).map u16) rfl (by simp [replL]; omega) (by simp [replL])) (.cons (Fz.im rfl) .nil))))
  · rw [if_neg h, if_neg h, show dec (off ≤ (l.length : Int)) = false by rw [qg]; exact h] at c1
    rw [show replP l off cnt v = ([], 14) by unfold replP; rw [if_pos (by omega)]]
    refine yq tabs Tryz.func84 48 [.tmp 8, .tmp 9] rfl rfl rfl rfl rfl ?_; intro w0 X
    (repeat' (first | ((with_reducible show AL _ _ _ _ _); first | (refine AL.step tabs rfl ?_; try dsimp only [len, List.nil_append, List.cons_append]) | refine AL.op rfl (yb rfl rfl rfl rfl c1 rfl) ?_ | refine ym ?_ | (refine AL.op rfl (yi rfl rfl rfl rfl rfl (by omega) (by omega)) ?_)) | refine yn ?_ | refine yc ?_ | refine ya ?_ | refine yf ?_ | refine AW.block ?_ | refine yt ?_ | refine yh rfl ?_ | refine yg rfl ?_ | (refine yk rfl (fun hc => ?_) (fun hc => ?_) <;> (try simp only [hsx] at hc) <;> (try first | omega | contradiction | (simp [qa] at hc; done))) | refine yo ?_ | refine yy ?_ | refine yd ?_ | refine yp ?_ | refine yw ?_ | refine yr ?_ | refine InB.off rfl ?_))
    all_goals first
      | exact RQ.fin rfl rfl rfl
noncomputable def cfP (f : List Node) (h : Int) (b : Bool) : Int := if faultR f [h] ≠ 0 then faultR f [h] else if dec (dataB (nodeAt f h).kind) = false ∨ b = true ∧ dec (textB (nodeAt f h).kind) = false then 23 else 0
theorem qa1 (f : List Node) (h : Int) (b : Bool) (hf : Fit f) : PureC Tryz.prog 39 [fav f, iav h, bav b] (iav (cfP f h b)) := by
  have hl := hf.len
  have c1 := qi4 f [h] hf (by simp)
  have c2 := qz f h hl
  obtain ⟨n, hn⟩ : ∃ n, n = nodeAt f h := ⟨_, rfl⟩
  obtain ⟨e, he⟩ : ∃ e, e = faultR f [h] := ⟨_, rfl⟩
  unfold cfP
  rw [← hn, ← he]
  rw [← hn] at c2
  rw [← he] at c1
  have c3 := qmv n.kind
  have c4 := qhm n.kind
  obtain ⟨p, hp⟩ : ∃ p, p = dec (dataB n.kind) := ⟨_, rfl⟩
  obtain ⟨q, hq⟩ : ∃ q, q = dec (textB n.kind) := ⟨_, rfl⟩
  rw [← hp] at c3 ⊢
  rw [← hq] at c4 ⊢
  refine yq tabs Tryz.func39 31 [.tmp 6] rfl rfl rfl rfl rfl ?_; intro w0 X
  (repeat' (first | ((with_reducible show AL _ _ _ _ _); first | (refine AL.step tabs rfl ?_; try dsimp only [len, List.nil_append, List.cons_append]) | refine AL.op rfl (yas rfl rfl rfl rfl c1 rfl rfl) ?_ | refine AL.op rfl (yb rfl rfl rfl rfl c2 rfl) ?_ | refine AL.op rfl (yb rfl rfl rfl rfl c3 rfl) ?_ | refine AL.op rfl (yb rfl rfl rfl rfl c4 rfl) ?_ | refine ym ?_ | (refine yj rfl rfl rfl (fun hc => ?_) (fun hc => ?_) <;> (fail_if_success (exact absurd hc (by decide))) <;> (try simp only [hsx] at hc) <;> (try first | omega | contradiction | (simp [qa] at hc; done)))) | refine yn ?_ | refine yc ?_ | refine ya ?_ | refine yf ?_ | refine yh rfl ?_ | refine yg rfl ?_ | (refine yk rfl (fun hc => ?_) (fun hc => ?_) <;> (try simp only [hsx] at hc) <;> (try first | omega | contradiction | (simp [qa] at hc; done))) | refine yo ?_ | refine yd ?_))
  · rw [if_pos (by assumption)]; exact RQ.fin rfl rfl rfl
  · have h1 : e = 0 := by assumption
    have h2 : p = false := by assumption
    rw [if_neg (by omega), if_pos (by simp [h2])]; exact RQ.fin rfl rfl rfl
  · have h1 : e = 0 := by assumption
    have h2 : p = true := by assumption
    have h3 : b = true := by assumption
    have h4 : q = false := by assumption
    rw [if_neg (by omega), if_pos (by simp [h2, h3, h4])]; exact RQ.fin rfl rfl rfl
  · have h1 : e = 0 := by assumption
    have h2 : p = true := by assumption
    have h3 : b = true := by assumption
    have h4 : q = true := by assumption
    rw [if_neg (by omega), if_neg (by simp [h2, h3, h4])]; exact RQ.fin rfl rfl rfl
  · have h1 : e = 0 := by assumption
    have h2 : p = true := by assumption
    have h3 : b = false := by assumption
    rw [if_neg (by omega), if_neg (by simp [h2, h3])]; exact RQ.fin rfl rfl rfl
end Go.Proofs.YtmhejcnaanocpaaGreat.A
