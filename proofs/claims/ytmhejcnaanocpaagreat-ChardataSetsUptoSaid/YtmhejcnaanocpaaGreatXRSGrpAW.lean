/- Contracts: the reference of layers 3, 1 and 5: plain changes, there, copies of changes, Sub, what is asked of a node. -/
import Derived.Test.YtmhejcnaanocpaaGreatXRSGrpAR
import Derived.Test.YtmhejcnaanocpaaGreatXRSGrpAV
import Derived.Test.YtmhejcnaanocpaaGreatXRSGrpAP
namespace Go.Proofs.YtmhejcnaanocpaaGreat.A
open Go.RowKit
set_option linter.unusedVariables false
set_option linter.unusedSimpArgs false
set_option maxRecDepth 100000
set_option maxHeartbeats 4000000
theorem qhv (c : Change) (hk : c.kind = 5) : PureC Tryz.prog 138 [c.av] (plainDa c).av := by
  refine yp tabs Tryz.func138 117 [.cell 2 58] rfl rfl rfl rfl rfl ?_; intro w0 X
  (repeat' (first | ((with_reducible show AL _ _ _ _ _); first | (refine yf tabs rfl ?_; try dsimp only [len, List.nil_append, List.cons_append]) | refine yn ?_) | ((with_reducible show DQ _ _ _ _ _ _); first | refine DQ.stepc (LS.store (i := ti3) (v := iav c.node) (ty := 58) (sz := 36) (rows := [[kav c.kind, iav 0, iav 0, iav 0, iav 0, iav 0, iav 0, iav 0, .nils, sav es, sav es, sav es, sav es, sav es, bav false, bav false, kav 0, sav es, sav es, sav es, sav es, sav es, .nils, .nils, iav 0, .nils, iav 0, iav 0, iav 0, kav 0, bav false, bav false, .nils, .nils, iav 0, iav 0]]) (r := [kav c.kind, iav 0, iav 0, iav 0, iav 0, iav 0, iav 0, iav 0, .nils, sav es, sav es, sav es, sav es, sav es, bav false, bav false, kav 0, sav es, sav es, sav es, sav es, sav es, .nils, .nils, iav 0, .nils, iav 0, iav 0, iav 0, kav 0, bav false, bav false, .nils, .nils, iav 0, iav 0]) tabs rfl rfl rfl rfl rfl rfl rfl rfl rfl rfl (Nat.le_of_ble_eq_true rfl) rfl) rfl rfl rfl rfl rfl ?_ | refine DQ.stepc (LS.store (i := ti3) (v := iav c.offset) (ty := 58) (sz := 36) (rows := [[kav c.kind, iav c.node, iav 0, iav 0, iav 0, iav 0, iav 0, iav 0, .nils, sav es, sav es, sav es, sav es, sav es, bav false, bav false, kav 0, sav es, sav es, sav es, sav es, sav es, .nils, .nils, iav 0, .nils, iav 0, iav 0, iav 0, kav 0, bav false, bav false, .nils, .nils, iav 0, iav 0]]) (r := [kav c.kind, iav c.node, iav 0, iav 0, iav 0, iav 0, iav 0, iav 0, .nils, sav es, sav es, sav es, sav es, sav es, bav false, bav false, kav 0, sav es, sav es, sav es, sav es, sav es, .nils, .nils, iav 0, .nils, iav 0, iav 0, iav 0, kav 0, bav false, bav false, .nils, .nils, iav 0, iav 0]) tabs rfl rfl rfl rfl rfl rfl rfl rfl rfl rfl (Nat.le_of_ble_eq_true rfl) rfl) rfl rfl rfl rfl rfl ?_ | refine DQ.stepc (LS.store (i := ti3) (v := iav c.count) (ty := 58) (sz := 36) (rows := [[kav c.kind, iav c.node, iav 0, iav 0, iav 0, iav 0, iav c.offset, iav 0, .nils, sav es, sav es, sav es, sav es, sav es, bav false, bav false, kav 0, sav es, sav es, sav es, sav es, sav es, .nils, .nils, iav 0, .nils, iav 0, iav 0, iav 0, kav 0, bav false, bav false, .nils, .nils, iav 0, iav 0]]) (r := [kav c.kind, iav c.node, iav 0, iav 0, iav 0, iav 0, iav c.offset, iav 0, .nils, sav es, sav es, sav es, sav es, sav es, bav false, bav false, kav 0, sav es, sav es, sav es, sav es, sav es, .nils, .nils, iav 0, .nils, iav 0, iav 0, iav 0, kav 0, bav false, bav false, .nils, .nils, iav 0, iav 0]) tabs rfl rfl rfl rfl rfl rfl rfl rfl rfl rfl (Nat.le_of_ble_eq_true rfl) rfl) rfl rfl rfl rfl rfl ?_ | refine DQ.stepc (LS.store (i := ti36) (v := .imm (.sl (c.data.map u16))) (ty := 58) (sz := 36) (rows := [[kav c.kind, iav c.node, iav 0, iav 0, iav 0, iav 0, iav c.offset, iav c.count, .nils, sav es, sav es, sav es, sav es, sav es, bav false, bav false, kav 0, sav es, sav es, sav es, sav es, sav es, .nils, .nils, iav 0, .nils, iav 0, iav 0, iav 0, kav 0, bav false, bav false, .nils, .nils, iav 0, iav 0]]) (r := [kav c.kind, iav c.node, iav 0, iav 0, iav 0, iav 0, iav c.offset, iav c.count, .nils, sav es, sav es, sav es, sav es, sav es, bav false, bav false, kav 0, sav es, sav es, sav es, sav es, sav es, .nils, .nils, iav 0, .nils, iav 0, iav 0, iav 0, kav 0, bav false, bav false, .nils, .nils, iav 0, iav 0]) tabs rfl rfl rfl rfl rfl rfl rfl rfl rfl rfl (Nat.le_of_ble_eq_true rfl) rfl) rfl rfl rfl rfl rfl ?_ | refine DQ.stepc (LS.val tabs rfl rfl rfl) rfl rfl rfl rfl rfl ?_ | refine DQ.stepc (yu rfl rfl) rfl rfl rfl rfl rfl ?_ | refine DQ.nilM (by kernel_rfl) ?_) | (exfalso; omega) | refine ym ?_ | refine ya ?_ | refine yb ?_ | refine yg ?_ | refine AW.block ?_ | refine yy ?_ | refine yi rfl ?_ | refine yh rfl ?_ | (refine yk rfl (fun hc => ?_) (fun hc => ?_) <;> (try simp only [hsx] at hc) <;> (try first | omega | contradiction | (simp [qa] at hc; done))) | refine yo ?_ | refine yaa ?_ | refine yc ?_ | refine yt ?_ | refine yab ?_ | refine yx ?_ | refine InB.off rfl ?_ | refine yr mixed (by kernel_rfl) ?_))
  exact RQ.fin rfl rfl rfl
theorem qhw (c : Change) (hk : c.kind = 8) : PureC Tryz.prog 138 [c.av] (plainPr c).av := by
  refine yp tabs Tryz.func138 117 [.cell 2 58] rfl rfl rfl rfl rfl ?_; intro w0 X
  (repeat' (first | ((with_reducible show AL _ _ _ _ _); first | (refine yf tabs rfl ?_; try dsimp only [len, List.nil_append, List.cons_append]) | refine yn ?_) | ((with_reducible show DQ _ _ _ _ _ _); first | refine DQ.stepc (LS.store (i := ti3) (v := iav c.node) (ty := 58) (sz := 36) (rows := [[kav c.kind, iav 0, iav 0, iav 0, iav 0, iav 0, iav 0, iav 0, .nils, sav es, sav es, sav es, sav es, sav es, bav false, bav false, kav 0, sav es, sav es, sav es, sav es, sav es, .nils, .nils, iav 0, .nils, iav 0, iav 0, iav 0, kav 0, bav false, bav false, .nils, .nils, iav 0, iav 0]]) (r := [kav c.kind, iav 0, iav 0, iav 0, iav 0, iav 0, iav 0, iav 0, .nils, sav es, sav es, sav es, sav es, sav es, bav false, bav false, kav 0, sav es, sav es, sav es, sav es, sav es, .nils, .nils, iav 0, .nils, iav 0, iav 0, iav 0, kav 0, bav false, bav false, .nils, .nils, iav 0, iav 0]) tabs rfl rfl rfl rfl rfl rfl rfl rfl rfl rfl (Nat.le_of_ble_eq_true rfl) rfl) rfl rfl rfl rfl rfl ?_ | refine DQ.stepc (LS.store (i := ti3) (v := iav c.other) (ty := 58) (sz := 36) (rows := [[kav c.kind, iav c.node, iav 0, iav 0, iav 0, iav 0, iav 0, iav 0, .nils, sav es, sav es, sav es, sav es, sav es, bav false, bav false, kav 0, sav es, sav es, sav es, sav es, sav es, .nils, .nils, iav 0, .nils, iav 0, iav 0, iav 0, kav 0, bav false, bav false, .nils, .nils, iav 0, iav 0]]) (r := [kav c.kind, iav c.node, iav 0, iav 0, iav 0, iav 0, iav 0, iav 0, .nils, sav es, sav es, sav es, sav es, sav es, bav false, bav false, kav 0, sav es, sav es, sav es, sav es, sav es, .nils, .nils, iav 0, .nils, iav 0, iav 0, iav 0, kav 0, bav false, bav false, .nils, .nils, iav 0, iav 0]) tabs rfl rfl rfl rfl rfl rfl rfl rfl rfl rfl (Nat.le_of_ble_eq_true rfl) rfl) rfl rfl rfl rfl rfl ?_ | refine DQ.stepc (LS.store (i := ti3) (v := iav c.offset) (ty := 58) (sz := 36) (rows := [[kav c.kind, iav c.node, iav 0, iav 0, iav c.other, iav 0, iav 0, iav 0, .nils, sav es, sav es, sav es, sav es, sav es, bav false, bav false, kav 0, sav es, sav es, sav es, sav es, sav es, .nils, .nils, iav 0, .nils, iav 0, iav 0, iav 0, kav 0, bav false, bav false, .nils, .nils, iav 0, iav 0]]) (r := [kav c.kind, iav c.node, iav 0, iav 0, iav c.other, iav 0, iav 0, iav 0, .nils, sav es, sav es, sav es, sav es, sav es, bav false, bav false, kav 0, sav es, sav es, sav es, sav es, sav es, .nils, .nils, iav 0, .nils, iav 0, iav 0, iav 0, kav 0, bav false, bav false, .nils, .nils, iav 0, iav 0]) tabs rfl rfl rfl rfl rfl rfl rfl rfl rfl rfl (Nat.le_of_ble_eq_true rfl) rfl) rfl rfl rfl rfl rfl ?_ | refine DQ.stepc (LS.val tabs rfl rfl rfl) rfl rfl rfl rfl rfl ?_ | refine DQ.stepc (yu rfl rfl) rfl rfl rfl rfl rfl ?_ | refine DQ.nilM (by kernel_rfl) ?_) | (exfalso; omega) | refine ym ?_ | refine ya ?_ | refine yb ?_ | refine yg ?_ | refine AW.block ?_ | refine yy ?_ | refine yi rfl ?_ | refine yh rfl ?_ | (refine yk rfl (fun hc => ?_) (fun hc => ?_) <;> (try simp only [hsx] at hc) <;> (try first | omega | contradiction | (simp [qa] at hc; done))) | refine yo ?_ | refine yaa ?_ | refine yc ?_ | refine yt ?_ | refine yab ?_ | refine yx ?_ | refine InB.off rfl ?_ | refine yr mixed (by kernel_rfl) ?_))
  exact RQ.fin rfl rfl rfl
theorem qhx (c : Change) (hk : c.kind = 10) : PureC Tryz.prog 138 [c.av] (plainTr c).av := by
  refine yp tabs Tryz.func138 117 [.cell 2 58] rfl rfl rfl rfl rfl ?_; intro w0 X
  (repeat' (first | ((with_reducible show AL _ _ _ _ _); first | (refine yf tabs rfl ?_; try dsimp only [len, List.nil_append, List.cons_append]) | refine yn ?_) | ((with_reducible show DQ _ _ _ _ _ _); first | refine DQ.stepc (LS.store (i := ti3) (v := iav c.parent) (ty := 58) (sz := 36) (rows := [[kav c.kind, iav 0, iav 0, iav 0, iav 0, iav 0, iav 0, iav 0, .nils, sav es, sav es, sav es, sav es, sav es, bav false, bav false, kav 0, sav es, sav es, sav es, sav es, sav es, .nils, .nils, iav 0, .nils, iav 0, iav 0, iav 0, kav 0, bav false, bav false, .nils, .nils, iav 0, iav 0]]) (r := [kav c.kind, iav 0, iav 0, iav 0, iav 0, iav 0, iav 0, iav 0, .nils, sav es, sav es, sav es, sav es, sav es, bav false, bav false, kav 0, sav es, sav es, sav es, sav es, sav es, .nils, .nils, iav 0, .nils, iav 0, iav 0, iav 0, kav 0, bav false, bav false, .nils, .nils, iav 0, iav 0]) tabs rfl rfl rfl rfl rfl rfl rfl rfl rfl rfl (Nat.le_of_ble_eq_true rfl) rfl) rfl rfl rfl rfl rfl ?_ | refine DQ.stepc (LS.store (i := ti41) (v := .imm (.sl (c.added.map i64))) (ty := 58) (sz := 36) (rows := [[kav c.kind, iav 0, iav c.parent, iav 0, iav 0, iav 0, iav 0, iav 0, .nils, sav es, sav es, sav es, sav es, sav es, bav false, bav false, kav 0, sav es, sav es, sav es, sav es, sav es, .nils, .nils, iav 0, .nils, iav 0, iav 0, iav 0, kav 0, bav false, bav false, .nils, .nils, iav 0, iav 0]]) (r := [kav c.kind, iav 0, iav c.parent, iav 0, iav 0, iav 0, iav 0, iav 0, .nils, sav es, sav es, sav es, sav es, sav es, bav false, bav false, kav 0, sav es, sav es, sav es, sav es, sav es, .nils, .nils, iav 0, .nils, iav 0, iav 0, iav 0, kav 0, bav false, bav false, .nils, .nils, iav 0, iav 0]) tabs rfl rfl rfl rfl rfl rfl rfl rfl rfl rfl (Nat.le_of_ble_eq_true rfl) rfl) rfl rfl rfl rfl rfl ?_ | refine DQ.stepc (LS.store (i := ti41) (v := .imm (.sl (c.removed.map i64))) (ty := 58) (sz := 36) (rows := [[kav c.kind, iav 0, iav c.parent, iav 0, iav 0, iav 0, iav 0, iav 0, .nils, sav es, sav es, sav es, sav es, sav es, bav false, bav false, kav 0, sav es, sav es, sav es, sav es, sav es, .nils, .nils, iav 0, .nils, iav 0, iav 0, iav 0, kav 0, bav false, bav false, .imm (.sl (c.added.map i64)), .nils, iav 0, iav 0]]) (r := [kav c.kind, iav 0, iav c.parent, iav 0, iav 0, iav 0, iav 0, iav 0, .nils, sav es, sav es, sav es, sav es, sav es, bav false, bav false, kav 0, sav es, sav es, sav es, sav es, sav es, .nils, .nils, iav 0, .nils, iav 0, iav 0, iav 0, kav 0, bav false, bav false, .imm (.sl (c.added.map i64)), .nils, iav 0, iav 0]) tabs rfl rfl rfl rfl rfl rfl rfl rfl rfl rfl (Nat.le_of_ble_eq_true rfl) rfl) rfl rfl rfl rfl rfl ?_ | refine DQ.stepc (LS.store (i := ti3) (v := iav c.prev) (ty := 58) (sz := 36) (rows := [[kav c.kind, iav 0, iav c.parent, iav 0, iav 0, iav 0, iav 0, iav 0, .nils, sav es, sav es, sav es, sav es, sav es, bav false, bav false, kav 0, sav es, sav es, sav es, sav es, sav es, .nils, .nils, iav 0, .nils, iav 0, iav 0, iav 0, kav 0, bav false, bav false, .imm (.sl (c.added.map i64)), .imm (.sl (c.removed.map i64)), iav 0, iav 0]]) (r := [kav c.kind, iav 0, iav c.parent, iav 0, iav 0, iav 0, iav 0, iav 0, .nils, sav es, sav es, sav es, sav es, sav es, bav false, bav false, kav 0, sav es, sav es, sav es, sav es, sav es, .nils, .nils, iav 0, .nils, iav 0, iav 0, iav 0, kav 0, bav false, bav false, .imm (.sl (c.added.map i64)), .imm (.sl (c.removed.map i64)), iav 0, iav 0]) tabs rfl rfl rfl rfl rfl rfl rfl rfl rfl rfl (Nat.le_of_ble_eq_true rfl) rfl) rfl rfl rfl rfl rfl ?_ | refine DQ.stepc (LS.store (i := ti3) (v := iav c.next) (ty := 58) (sz := 36) (rows := [[kav c.kind, iav 0, iav c.parent, iav 0, iav 0, iav 0, iav 0, iav 0, .nils, sav es, sav es, sav es, sav es, sav es, bav false, bav false, kav 0, sav es, sav es, sav es, sav es, sav es, .nils, .nils, iav 0, .nils, iav 0, iav 0, iav 0, kav 0, bav false, bav false, .imm (.sl (c.added.map i64)), .imm (.sl (c.removed.map i64)), iav c.prev, iav 0]]) (r := [kav c.kind, iav 0, iav c.parent, iav 0, iav 0, iav 0, iav 0, iav 0, .nils, sav es, sav es, sav es, sav es, sav es, bav false, bav false, kav 0, sav es, sav es, sav es, sav es, sav es, .nils, .nils, iav 0, .nils, iav 0, iav 0, iav 0, kav 0, bav false, bav false, .imm (.sl (c.added.map i64)), .imm (.sl (c.removed.map i64)), iav c.prev, iav 0]) tabs rfl rfl rfl rfl rfl rfl rfl rfl rfl rfl (Nat.le_of_ble_eq_true rfl) rfl) rfl rfl rfl rfl rfl ?_ | refine DQ.stepc (LS.val tabs rfl rfl rfl) rfl rfl rfl rfl rfl ?_ | refine DQ.stepc (yu rfl rfl) rfl rfl rfl rfl rfl ?_ | refine DQ.nilM (by kernel_rfl) ?_) | (exfalso; omega) | refine ym ?_ | refine ya ?_ | refine yb ?_ | refine yg ?_ | refine AW.block ?_ | refine yy ?_ | refine yi rfl ?_ | refine yh rfl ?_ | (refine yk rfl (fun hc => ?_) (fun hc => ?_) <;> (try simp only [hsx] at hc) <;> (try first | omega | contradiction | (simp [qa] at hc; done))) | refine yo ?_ | refine yaa ?_ | refine yc ?_ | refine yt ?_ | refine yab ?_ | refine yx ?_ | refine InB.off rfl ?_ | refine yr mixed (by kernel_rfl) ?_))
  exact RQ.fin rfl rfl rfl
theorem qb6 (f : List Node) (l : List Int) (hl : f.length ≤ 1000000000) (hll : l.length ≤ 1000000000) : PureC Tryz.prog 173 [fav f, .imm (.sl (l.map i64))] (bav (l.all fun h => inB f h)) := by
  have hil : (l.map i64).length = l.length := List.length_map _
  refine yp tabs Tryz.func173 24 [.tmp 4] rfl rfl rfl rfl rfl ?_; intro w0 X
  (repeat' (first | ((with_reducible show AL _ _ _ _ _); first | (refine yf tabs rfl ?_; try dsimp only [len, List.nil_append, List.cons_append]) | refine yn ?_ | (refine AL.op rfl (yj rfl rfl rfl rfl rfl (by omega) (by omega)) ?_) | (refine AL.op rfl (ye tabs rfl rfl rfl rfl rfl rfl rfl (fun _ => rfl) (by decide) (by omega) (by omega)) ?_)) | fail | refine ym ?_ | refine ya ?_ | refine yb ?_ | refine yg ?_ | refine AW.block ?_ | refine yy ?_ | refine yi rfl ?_ | refine yh rfl ?_ | (refine yk rfl (fun hc => ?_) (fun hc => ?_) <;> (try simp only [hsx] at hc) <;> (try first | omega | contradiction | (simp [qa] at hc; done))) | refine yo ?_ | refine yaa ?_ | refine yc ?_ | refine yt ?_ | refine yab ?_ | refine yx ?_ | refine InB.off rfl ?_ | refine yaf ?_ | refine yac ?_))
  refine yao (α := Int) (fun i => ⟨[(2, .ptr 0 1 0 0), (9, .imm (.sl (l.map i64))), (10, iav (l.map i64).length), (11, iav i)], [⟨24, 1, [[.imm (.sl (f.map Node.iv))]]⟩]⟩) (fun i => 0 ≤ i ∧ i ≤ l.length ∧ (l.all fun h => inB f h) = ((l.drop i.toNat).all fun h => inB f h)) (fun i => (l.length - i).toNat) 0 (yag 1 rfl (by repeat' (first | exact trivial | refine ⟨rfl, ?_⟩)) rfl (by simp only [qax]; rfl) (Nat.zero_le _)) ⟨by omega, by omega, rfl⟩ ?_
  intro i ⟨h0, h1, h2⟩
  have c1 := qa6 f (atI l i) hl
  obtain ⟨b, hb⟩ : ∃ b, b = inB f (atI l i) := ⟨_, rfl⟩
  rw [← hb] at c1
  (repeat' (first | ((with_reducible show AL _ _ _ _ _); first | (refine yf tabs rfl ?_; try dsimp only [len, List.nil_append, List.cons_append]) | refine AL.op rfl (yd rfl rfl rfl rfl c1 rfl) ?_ | refine yn ?_ | (refine AL.op rfl (yj rfl rfl rfl rfl rfl (by omega) (by omega)) ?_) | (refine AL.op rfl (ye tabs rfl rfl rfl rfl rfl rfl rfl (fun _ => rfl) (by decide) (by omega) (by omega)) ?_)) | refine ym ?_ | refine ya ?_ | refine yb ?_ | refine yg ?_ | refine AW.block ?_ | refine yy ?_ | refine yi rfl ?_ | refine yh rfl ?_ | (refine yk rfl (fun hc => ?_) (fun hc => ?_) <;> (try simp only [hsx] at hc) <;> (try first | omega | contradiction | (simp [qa] at hc; done))) | refine yo ?_ | refine yaa ?_ | refine yc ?_ | refine yt ?_ | refine yab ?_ | refine yx ?_ | refine InB.off rfl ?_ | refine yaf ?_ | refine yac ?_))
  all_goals first
    | (subst hc
       rw [qe h0 (by assumption), List.all_cons, ← hb] at h2
       rw [h2]; exact RQ.fin rfl rfl rfl)
    | (subst hc
       rw [qe h0 (by assumption), List.all_cons, ← hb, Bool.true_and] at h2
       exact yak (i + 1) (yag 1 rfl (by repeat' (first | exact trivial | refine ⟨rfl, ?_⟩)) rfl (by simp only [qax]; rfl) (Nat.zero_le _)) ⟨by omega, by omega, h2⟩ (by omega))
    | (rw [qac (by assumption)] at h2
       rw [h2]; exact RQ.fin rfl rfl rfl)
def orZ (h : Int) : List Int := if h = 0 then [] else [h]
theorem qmf (h : Int) : PureC Tryz.prog 174 [iav h] (.imm (.sl ((orZ h).map i64))) := by
  unfold orZ
  refine yp tabs Tryz.func174 7 [.tmp 2] rfl rfl rfl rfl rfl ?_; intro w0 X
  (repeat' (first | ((with_reducible show AL _ _ _ _ _); first | (refine yf tabs rfl ?_; try dsimp only [len, List.nil_append, List.cons_append]) | refine yn ?_) | refine ym ?_ | refine ya ?_ | refine yb ?_ | refine yg ?_ | refine yi rfl ?_ | refine yh rfl ?_ | (refine yk rfl (fun hc => ?_) (fun hc => ?_) <;> (try simp only [hsx] at hc) <;> (try first | omega | contradiction | (simp [qa] at hc; done))) | refine yo ?_ | refine yc ?_))
  · rw [if_pos (by assumption)]; exact RQ.fin rfl rfl rfl
  · rw [if_neg (by assumption)]; exact yap rfl (Fz.os (b := ⟨3, 1, [cI h]⟩) (rows := [h].map i64) rfl rfl rfl)
theorem qlh (f : List Node) (h : Int) (hl : f.length ≤ 1000000000) : PureC Tryz.prog 51 [fav f, iav h] (kav (nodeAt f h).kind) := by
  have c1 := qa6 f h hl
  refine yp tabs Tryz.func51 15 [.tmp 4] rfl rfl rfl rfl rfl ?_; intro w0 X
  (repeat' (first | ((with_reducible show AL _ _ _ _ _); first | (refine yf tabs rfl ?_; try dsimp only [len, List.nil_append, List.cons_append]) | refine AL.op rfl (yd rfl rfl rfl rfl c1 rfl) ?_ | refine yn ?_) | refine ym ?_ | refine ya ?_ | refine yb ?_ | refine yg ?_ | refine yo ?_ | refine yc ?_))
  exact RQ.fin rfl rfl rfl
theorem qli (f : List Node) (h : Int) (hf : Fit f) : PureC Tryz.prog 49 [fav f, iav h] (iav (faultR f [h])) := by
  have c1 := qhb f hf
  have c2 := qa6 f h hf.len
  have e : faultR f [h] = if dec (rightP f) = true then (if inB f h = true then 0 else 2) else 5 := by unfold faultR; simp
  rw [e]
  obtain ⟨b1, e1⟩ : ∃ b, b = dec (rightP f) := ⟨_, rfl⟩
  obtain ⟨b2, e2⟩ : ∃ b, b = inB f h := ⟨_, rfl⟩
  rw [← e1] at c1 ⊢
  rw [← e2] at c2 ⊢
  refine yp tabs Tryz.func49 18 [.tmp 4] rfl rfl rfl rfl rfl ?_; intro w0 X
  (repeat' (first | ((with_reducible show AL _ _ _ _ _); first | (refine yf tabs rfl ?_; try dsimp only [len, List.nil_append, List.cons_append]) | refine AL.op rfl (yd rfl rfl rfl rfl c1 rfl) ?_ | refine AL.op rfl (yd rfl rfl rfl rfl c2 rfl) ?_ | refine yn ?_) | refine ym ?_ | refine ya ?_ | refine yb ?_ | refine yg ?_ | refine yi rfl ?_ | refine yh rfl ?_ | (refine yk rfl (fun hc => ?_) (fun hc => ?_) <;> (try simp only [hsx] at hc) <;> (try first | omega | contradiction | (simp [qa] at hc; done))) | refine yo ?_ | refine yc ?_))
  all_goals (clear c1 c2 e e1 e2; subst_vars; exact RQ.fin rfl rfl rfl)
theorem qhe (k : Int) : hasD k ↔ dataB k := by unfold hasD dataB textB; omega
theorem qdu (f : List Node) (h : Int) (hf : Fit f) : PureC Tryz.prog 63 [fav f, iav h] (iav (cfP f h false)) := by
  have c1 := qli f h hf
  have c2 := qlh f h hf.len
  have c3 := qb3 (nodeAt f h).kind
  obtain ⟨e, he⟩ : ∃ e, e = faultR f [h] := ⟨_, rfl⟩
  obtain ⟨k, hk⟩ : ∃ k, k = (nodeAt f h).kind := ⟨_, rfl⟩
  have ec : cfP f h false = if e ≠ 0 then e else if dec (hasD k) = false then 23 else 0 := by
    unfold cfP
    rw [← he, ← hk]
    simp only [Bool.false_eq_true, false_and, or_false]
    rw [show dec (dataB k) = dec (hasD k) by rw [propext (qhe k)]]
  rw [ec]
  rw [← he] at c1
  rw [← hk] at c2 c3
  obtain ⟨b, hb⟩ : ∃ b, b = dec (hasD k) := ⟨_, rfl⟩
  rw [← hb] at c3 ⊢
  refine yp tabs Tryz.func63 19 [.tmp 4] rfl rfl rfl rfl rfl ?_; intro w0 X
  (repeat' (first | ((with_reducible show AL _ _ _ _ _); first | (refine yf tabs rfl ?_; try dsimp only [len, List.nil_append, List.cons_append]) | refine AL.op rfl (yd rfl rfl rfl rfl c1 rfl) ?_ | refine AL.op rfl (yd rfl rfl rfl rfl c2 rfl) ?_ | refine AL.op rfl (yd rfl rfl rfl rfl c3 rfl) ?_ | refine yn ?_ | (refine yq rfl rfl rfl (fun hc => ?_) (fun hc => ?_) <;> (fail_if_success (exact absurd hc (by decide))) <;> (try simp only [hsx] at hc) <;> (try first | omega | contradiction | (simp [qa] at hc; done)))) | refine ym ?_ | refine ya ?_ | refine yb ?_ | refine yg ?_ | refine yi rfl ?_ | refine yh rfl ?_ | (refine yk rfl (fun hc => ?_) (fun hc => ?_) <;> (try simp only [hsx] at hc) <;> (try first | omega | contradiction | (simp [qa] at hc; done))) | refine yo ?_ | refine yc ?_))
  · rw [if_neg (by omega), if_pos hc]; exact RQ.fin rfl rfl rfl
  · rw [if_neg (by omega), if_neg (by rw [hc]; simp)]
    rename_i he0
    rw [he0]
    exact RQ.fin rfl rfl rfl
  · rw [if_pos hc]; exact RQ.fin rfl rfl rfl
theorem OpOK.min2e {C : Cx} {s : St} {o : Oper} (hd : dok C.nt o.dst = true) {x y : Operand} {t t2 : TypeId} (ho : o.op = .call ⟨.builtin .min, #[x, y], #[t, t2]⟩) {k k2 : IntKind} {m n r : Int} (hx : s.ev x = some (.imm (.int k m))) (hy : s.ev y = some (.imm (.int k2 n))) (he : min m n = r) : OpOK C s o (s.put o.dst (.imm (.int k r))) :=
  he ▸ OpOK.min2 hd ho hx hy
theorem qod (l : List Int) (off cnt : Int) (h0 : 0 ≤ off) (h1 : off < 4294967296) (h2 : 0 ≤ cnt) (h3 : cnt < 4294967296) (hl : l.length ≤ 1000000000) : PureC Tryz.prog 74 [.imm (.sl (l.map u16)), u32 off, u32 cnt] (.tup [.imm (.sl ((if off ≤ l.length then subP l off cnt else []).map u16)), iav (if off ≤ l.length then 0 else 14)]) := by
  have hml : (l.map u16).length = l.length := List.length_map _
  have hsl : (subP l off cnt).length ≤ 1000000000 := by unfold subP; simp only [List.length_drop, List.length_take]; omega
  by_cases h : off ≤ l.length
  · rw [if_pos h, if_pos h]
    have hs0 : off ≤ spTo l.length off cnt := by unfold spTo; omega
    have hs1 : spTo l.length off cnt ≤ l.length := by unfold spTo; omega
    have hmin : min (off + cnt) ((l.map u16).length : Int) = spTo l.length off cnt := by rw [hml]; unfold spTo; omega
    refine yp tabs Tryz.func74 28 [.tmp 6, .tmp 7] rfl rfl rfl rfl rfl ?_; intro w0 X
    (repeat' (first | ((with_reducible show AL _ _ _ _ _); first | refine AL.op rfl (ybg tabs rfl rfl rfl rfl rfl rfl (by omega) (by omega)) ?_ | refine AL.op rfl (OpOK.min2e rfl rfl rfl rfl hmin) ?_ | (refine yf tabs rfl ?_; try dsimp only [len, List.nil_append, List.cons_append]) | (refine AL.op rfl (yj rfl rfl rfl rfl rfl (by omega) (by omega)) ?_) | refine AL.op rfl (ya0 (i := ti36) (ie := ti55) (e := 55) (f := u16) (xs := l) (l := off) (h := spTo l.length off cnt) tabs rfl rfl rfl rfl rfl rfl rfl rfl (fun _ => rfl) (by omega) (by omega) (by omega)) ?_ | refine yae rfl (yam (ie := ti55) (b := ⟨55, 1, []⟩) tabs rfl rfl rfl rfl rfl rfl rfl rfl rfl rfl (SrcA.imm (rows := (subP l off cnt).map u16) tabs rfl rfl rfl (by simp [u16, ti55])) (by simp [ti55, chunk]; omega) (by simp [chunk]; omega)) rfl ?_ | refine yn ?_ | (refine AL.op rfl (yj rfl rfl rfl rfl rfl (by omega) (by omega)) ?_)) | (exfalso; omega) | refine ym ?_ | refine ya ?_ | refine yb ?_ | refine yg ?_ | refine yi rfl ?_ | refine yh rfl ?_ | (refine yk rfl (fun hc => ?_) (fun hc => ?_) <;> (try simp only [hsx] at hc) <;> (try first | omega | contradiction | (simp [qa] at hc; done))) | refine yo ?_ | refine yc ?_))
    refine yap rfl (ya5 (.cons (Fz.os (b := ⟨55, 1, ((subP l off cnt).map u16).map (·.map .imm)⟩) (rows := (subP l off cnt).map u16) rfl ?_ rfl) (.cons (Fz.im rfl) .nil)))
    simp
  · rw [if_neg h, if_neg h]
    refine yp tabs Tryz.func74 28 [.tmp 6, .tmp 7] rfl rfl rfl rfl rfl ?_; intro w0 X
    (repeat' (first | ((with_reducible show AL _ _ _ _ _); first | refine AL.op rfl (ybg tabs rfl rfl rfl rfl rfl rfl (by omega) (by omega)) ?_ | (refine yf tabs rfl ?_; try dsimp only [len, List.nil_append, List.cons_append]) | refine yn ?_ | (refine AL.op rfl (yj rfl rfl rfl rfl rfl (by omega) (by omega)) ?_)) | (exfalso; omega) | refine ym ?_ | refine ya ?_ | refine yb ?_ | refine yg ?_ | refine yi rfl ?_ | refine yh rfl ?_ | (refine yk rfl (fun hc => ?_) (fun hc => ?_) <;> (try simp only [hsx] at hc) <;> (try first | omega | contradiction | (simp [qa] at hc; done))) | refine yo ?_ | refine yc ?_))
    exact RQ.fin rfl rfl rfl
theorem qe0 (c : Change) (hc : FitC c) : PureC Tryz.prog 102 [c.av] c.av := by
  have c1 := qa5 c.made hc.made
  have := hc.data
  have := hc.added
  have := hc.removed
  refine yp tabs Tryz.func102 23 [.cell 2 58] rfl rfl rfl rfl rfl ?_; intro w0 X
  (repeat' (first | ((with_reducible show AL _ _ _ _ _); first | (refine yf tabs rfl ?_; try dsimp only [len, List.nil_append, List.cons_append]) | refine AL.op rfl (yd rfl rfl rfl rfl c1 rfl) ?_ | refine yae rfl (yam (ie := ti55) (b := ⟨55, 1, []⟩) tabs rfl rfl rfl rfl rfl rfl rfl rfl rfl rfl (SrcA.imm (rows := c.data.map u16) tabs rfl rfl rfl (by simp [u16, ti55])) (by simp [ti55, chunk]; omega) (by simp [chunk]; omega)) rfl ?_ | refine yae rfl (yam (ie := ti3) (b := ⟨3, 1, []⟩) tabs rfl rfl rfl rfl rfl rfl rfl rfl rfl rfl (SrcA.imm (rows := c.added.map i64) tabs rfl rfl rfl (by simp [i64, ti3])) (by simp [ti3, chunk]; omega) (by simp [chunk]; omega)) rfl ?_ | refine yae rfl (yam (ie := ti3) (b := ⟨3, 1, []⟩) tabs rfl rfl rfl rfl rfl rfl rfl rfl rfl rfl (SrcA.imm (rows := c.removed.map i64) tabs rfl rfl rfl (by simp [i64, ti3])) (by simp [ti3, chunk]; omega) (by simp [chunk]; omega)) rfl ?_ | refine yn ?_) | refine ym ?_ | refine ya ?_ | refine yb ?_ | refine yg ?_ | refine yo ?_ | refine yc ?_))
  exact RQ.norm rfl (ybs (.cons (Fz.im rfl) (.cons (Fz.im rfl) (.cons (Fz.im rfl) (.cons (Fz.im rfl) (.cons (Fz.im rfl) (.cons (Fz.im rfl) (.cons (Fz.im rfl) (.cons (Fz.im rfl) (.cons (Fz.os (b := ⟨55, 1, (c.data.map u16).map (·.map .imm)⟩) (rows := c.data.map u16) rfl (by simp) rfl) (.cons (Fz.im rfl) (.cons (Fz.im rfl) (.cons (Fz.im rfl) (.cons (Fz.im rfl) (.cons (Fz.im rfl) (.cons (Fz.im rfl) (.cons (Fz.im rfl) (.cons (Fz.im rfl) (.cons (Fz.im rfl) (.cons (Fz.im rfl) (.cons (Fz.im rfl) (.cons (Fz.im rfl) (.cons (Fz.im rfl) (.cons (Fz.im rfl) (.cons (Fz.im rfl) (.cons (Fz.im rfl) (.cons (Fz.im rfl) (.cons (Fz.im rfl) (.cons (Fz.im rfl) (.cons (Fz.im rfl) (.cons (Fz.im rfl) (.cons (Fz.im rfl) (.cons (Fz.im rfl) (.cons (Fz.os (b := ⟨3, 1, (c.added.map i64).map (·.map .imm)⟩) (rows := c.added.map i64) rfl (by simp) rfl) (.cons (Fz.os (b := ⟨3, 1, (c.removed.map i64).map (·.map .imm)⟩) (rows := c.removed.map i64) rfl (by simp) rfl) (.cons (Fz.im rfl) (.cons (Fz.im rfl) .nil)))))))))))))))))))))))))))))))))))))
theorem AW.retW {C : Cx} {Q : Exit → St → Prop} {s s1 : St} (hle : Le C s s1) {e1 : List (Nat × AV)} {h1 : List Blk} (he : s1 = ⟨e1, h1⟩) (h : AW C .ret Q ⟨e1, h1⟩) : AW C .ret Q s := by
  subst he
  exact yb3 hle h
def penB (p : PS) : List Blk := [⟨112, 3, [[.imm (.sl (p.F.map Node.iv)), .os 1 p.L.length, iav p.why]]⟩, ⟨58, 36, p.L.map rowC⟩]
def pen0 (f : List Node) : PS := ⟨f, [], 0⟩
theorem on_c (f : List Node) : GenC Tryz.prog 42 [⟨112, 3, []⟩] [fav f] (.ptr 0 1 0 0) [⟨112, 3, [[.imm (.sl (f.map Node.iv)), .os 2 0, iav 0]]⟩, ⟨24, 1, [[.imm (.sl (f.map Node.iv))]]⟩, ⟨58, 36, []⟩] := by
  refine yah tabs Tryz.func42 6 [.tmp 2] rfl rfl rfl rfl rfl ?_; intro w0 X γ κ
  (repeat' (first | ((with_reducible show AL _ _ _ _ _); first | refine yae rfl (OpOK.boxAt 0 (t := 112) rfl rfl rfl rfl rfl rfl) rfl ?_ | (refine yf tabs rfl ?_; try dsimp only [len, List.nil_append, List.cons_append]) | refine yn ?_) | refine AW.retW (h1 := [⟨112, 3, [[.imm (.sl (f.map Node.iv)), .os 2 0, iav 0]]⟩, ⟨24, 1, [[.imm (.sl (f.map Node.iv))]]⟩, ⟨58, 36, []⟩]) (yb5 0 1 58 36 (ty := 112) (sz := 3) (r := [.imm (.sl (f.map Node.iv)), .nils, iav 0]) rfl rfl rfl) rfl ?_ | refine ym ?_ | refine ya ?_ | refine yb ?_ | refine yg ?_ | refine yo ?_ | refine yc ?_))
  exact yal 3 rfl rfl rfl rfl rfl (by simp [cxG])
def refP (p : PS) (w : Int) : PS := ⟨p.F, p.L, if p.why = 0 then w else p.why⟩
theorem qlj (p : PS) (w : Int) : GenC Tryz.prog 85 (penB p) [.ptr 0 1 0 0, iav w] (bav false) (penB (refP p w)) := by
  unfold penB refP
  refine yah tabs Tryz.func85 14 [.tmp 4] rfl rfl rfl rfl rfl ?_; intro w0 X γ κ
  (repeat' (first | ((with_reducible show AL _ _ _ _ _); first | (refine yf tabs rfl ?_; try dsimp only [len, List.nil_append, List.cons_append]) | refine yn ?_) | ((with_reducible show DQ _ _ _ _ _ _); first | refine DQ.stepc (LS.store (i := ti28) (v := iav w) (ty := 112) (sz := 3) (rows := [[.imm (.sl (p.F.map Node.iv)), .os 1 p.L.length, iav p.why]]) (r := [.imm (.sl (p.F.map Node.iv)), .os 1 p.L.length, iav p.why]) tabs rfl rfl rfl rfl rfl rfl rfl rfl rfl rfl (Nat.le_of_ble_eq_true rfl) rfl) rfl rfl rfl rfl rfl ?_ | refine DQ.stepc (LS.val tabs rfl rfl rfl) rfl rfl rfl rfl rfl ?_ | refine DQ.stepc (yu rfl rfl) rfl rfl rfl rfl rfl ?_ | refine DQ.nilM (by kernel_rfl) ?_) | refine ym ?_ | refine ya ?_ | refine yb ?_ | refine yg ?_ | refine yi rfl ?_ | refine yh rfl ?_ | (refine yk rfl (fun hc => ?_) (fun hc => ?_) <;> (try simp only [hsx] at hc) <;> (try first | omega | contradiction | (simp [qa] at hc; done))) | refine yo ?_ | refine yc ?_ | refine yr mixed (by kernel_rfl) ?_))
  · rw [if_pos hc]
    exact yal 2 rfl rfl rfl rfl (by simp only [qax]; exact ⟨⟨rfl, rfl, rfl⟩, qd _ _⟩) (by simp [cxG])
  · rw [if_neg hc]
    exact yal 2 rfl rfl rfl rfl (by simp only [qax]; exact ⟨⟨rfl, rfl, rfl⟩, qd _ _⟩) (by simp [cxG])
noncomputable def putC (f : List Node) (h off cnt : Int) (v : List Int) : Change := { c0 with kind := 5, node := h, offset := off, count := ((nodeAt f h).data.length : Int) + v.length - (replP (nodeAt f h).data off cnt v).1.length, data := v }
inductive PutR (h off cnt : Int) (v : List Int) : PS → PS → Bool → Prop
  | no (p : PS) (e : (replP (nodeAt p.F h).data off cnt v).2 ≠ 0) : PutR h off cnt v p (refP p (replP (nodeAt p.F h).data off cnt v).2) false
  | yes (p q : PS) (b : Bool) (e : (replP (nodeAt p.F h).data off cnt v).2 = 0) (H : DoR p (putC p.F h off cnt v) q b) : PutR h off cnt v p q b
def rawDa (node off cnt : Int) (v : List Int) : AV := .agg [kav 5, iav node, iav 0, iav 0, iav 0, iav 0, iav off, iav cnt, .imm (.sl (v.map u16)), sav es, sav es, sav es, sav es, sav es, bav false, bav false, kav 0, sav es, sav es, sav es, sav es, sav es, .nils, .nils, iav 0, .nils, iav 0, iav 0, iav 0, kav 0, bav false, bav false, .nils, .nils, iav 0, iav 0]
theorem qcq (p q : PS) (h off cnt : Int) (v : List Int) (b : Bool) (hf : Fit p.F) (hL : p.L.length ≤ 1000000) (h0 : 0 ≤ off) (h1 : off < 4294967296) (h2 : 0 ≤ cnt) (h3 : cnt < 4294967296) (hv : v.length ≤ 1000000000) (H : PutR h off cnt v p q b) :
    GenC Tryz.prog 47 (penB p) [.ptr 0 1 0 0, iav h, u32 off, u32 cnt, .imm (.sl (v.map u16))] (bav b) (penB q) := by
  have hl := hf.len
  have c1 := qw p.F h hl
  have hdl := (hf.at h).data
  have c2 := qoc (nodeAt p.F h).data off cnt v h0 h1 h2 h3 hdl hv
  obtain ⟨n, hn⟩ : ∃ n, n = nodeAt p.F h := ⟨_, rfl⟩
  obtain ⟨r, hr⟩ : ∃ r, r = replP (nodeAt p.F h).data off cnt v := ⟨_, rfl⟩
  rw [← hr] at c2
  have hrl : r.1.length ≤ 2000000000 := by
    rw [hr]; unfold replP replL; split
    · simp
    · split
      · simp
      · simp only [List.length_append, List.length_take, List.length_drop]; omega
  have hmr : (r.1.map u16).length = r.1.length := List.length_map _
  have hmv : (v.map u16).length = v.length := List.length_map _
  have hmn : (n.data.map u16).length = n.data.length := List.length_map _
  rw [← hn] at c1 c2 hdl hr
  cases H with
  | no e =>
    rw [← hn, ← hr] at e ⊢
    have c3 := qlj p r.2
    unfold penB at c3 ⊢
    refine yah tabs Tryz.func47 51 [.tmp 10] rfl rfl rfl rfl rfl ?_; intro w0 X γ κ
    (repeat' (first | ((with_reducible show AL _ _ _ _ _); first | (refine yf tabs rfl ?_; try dsimp only [len, List.nil_append, List.cons_append]) | refine AL.op rfl (yd rfl rfl rfl rfl c1 rfl) ?_ | refine AL.op rfl (yd rfl rfl rfl rfl c2 rfl) ?_ | refine yz [0, 1] 2 rfl rfl rfl rfl rfl (caps := []) rfl c3 rfl (by simp only [List.map_cons, List.map_nil, renC]; rfl) rfl rfl (by simp only [qax]; exact ⟨⟨rfl, rfl, rfl⟩, qd _ _⟩) rfl (by simp only [qax]; exact ⟨⟨rfl, rfl, rfl⟩, qd _ _⟩) rfl (hpA := [⟨112, 3, [[.imm (.sl ((refP p r.2).F.map Node.iv)), .os 1 (refP p r.2).L.length, iav (refP p r.2).why]]⟩, ⟨58, 36, (refP p r.2).L.map rowC⟩]) (by simp only [List.map_cons, List.map_nil, renC]; rfl) (r' := bav false) rfl rfl ?_; try dsimp only [setAll, List.drop_succ_cons, List.drop_zero, List.drop_nil, List.set_cons_succ, List.set_cons_zero, List.cons_append, List.nil_append, List.append_nil, len, Nat.reduceAdd] | refine yn ?_ | (refine AL.op rfl (yj rfl rfl rfl rfl rfl (by omega) (by omega)) ?_)) | refine ym ?_ | refine ya ?_ | refine yb ?_ | refine yg ?_ | refine yi rfl ?_ | refine yh rfl ?_ | (refine yk rfl (fun hc => ?_) (fun hc => ?_) <;> (try simp only [hsx] at hc) <;> (try first | omega | contradiction | (simp [qa] at hc; done))) | refine yo ?_ | refine yc ?_))
    all_goals first
      | (exfalso; exact e hc)
      | exact yal 2 rfl rfl rfl rfl (by simp only [qax]; exact ⟨⟨rfl, rfl, rfl⟩, qd _ _⟩) (by simp [cxG])
  | yes _ _ e H =>
    rw [← hn, ← hr] at e
    have hdo : GenC Tryz.prog 45 _ [.ptr 0 1 0 0, rawDa h off ((nodeAt p.F h).data.length + v.length - (replP (nodeAt p.F h).data off cnt v).1.length) v] _ _ := GenC.cv (do_c p q _ b hL H) rfl
    rw [← hn, ← hr, ← hmn, ← hmv, ← hmr] at hdo
    unfold penB
    refine yah tabs Tryz.func47 51 [.tmp 10] rfl rfl rfl rfl rfl ?_; intro w0 X γ κ
    (repeat' (first | ((with_reducible show AL _ _ _ _ _); first | refine AL.op rfl (ybg tabs rfl rfl rfl rfl rfl rfl (by omega) (by omega)) ?_ | (refine yf tabs rfl ?_; try dsimp only [len, List.nil_append, List.cons_append]) | refine AL.op rfl (yd rfl rfl rfl rfl c1 rfl) ?_ | refine AL.op rfl (yd rfl rfl rfl rfl c2 rfl) ?_ | refine yz [0, 1] 2 rfl rfl rfl rfl rfl (caps := []) rfl hdo rfl (by simp only [List.map_cons, List.map_nil, renC]; rfl) rfl rfl (by simp only [qax]; exact ⟨⟨rfl, rfl, rfl⟩, qd _ _⟩) rfl (by simp only [qax]; exact ⟨⟨rfl, rfl, rfl⟩, qd _ _⟩) rfl (hpA := [⟨112, 3, [[.imm (.sl ((q).F.map Node.iv)), .os 1 (q).L.length, iav (q).why]]⟩, ⟨58, 36, (q).L.map rowC⟩]) (by simp only [List.map_cons, List.map_nil, renC]; rfl) (r' := bav b) rfl rfl ?_; try dsimp only [setAll, List.drop_succ_cons, List.drop_zero, List.drop_nil, List.set_cons_succ, List.set_cons_zero, List.cons_append, List.nil_append, List.append_nil, len, Nat.reduceAdd] | refine yn ?_ | (refine AL.op rfl (yj rfl rfl rfl rfl rfl (by omega) (by omega)) ?_)) | refine ym ?_ | refine ya ?_ | refine yb ?_ | refine yg ?_ | refine yi rfl ?_ | refine yh rfl ?_ | (refine yk rfl (fun hc => ?_) (fun hc => ?_) <;> (try simp only [hsx] at hc) <;> (try first | omega | contradiction | (simp [qa] at hc; done))) | refine yo ?_ | refine yc ?_))
    all_goals first
      | (exfalso; exact hc e)
      | exact yal 2 rfl rfl rfl rfl (by simp only [qax]; exact ⟨⟨rfl, rfl, rfl⟩, qd _ _⟩) (by simp [cxG])
theorem qmg (a b n : Int) : GenC Tryz.prog 62 [⟨25, 1, [[u32 a]]⟩, ⟨25, 1, [[u32 b]]⟩] [u32 n, .ptr 0 1 0 0, .ptr 1 1 0 0] (.tup [u32 a, u32 b]) [⟨25, 1, [[u32 a]]⟩, ⟨25, 1, [[u32 b]]⟩] := by
  refine yah tabs Tryz.func62 8 [.tmp 4, .tmp 5] rfl rfl rfl rfl rfl ?_; intro w0 X γ κ
  (repeat' (first | ((with_reducible show AL _ _ _ _ _); first | (refine yf tabs rfl ?_; try dsimp only [len, List.nil_append, List.cons_append]) | refine yn ?_) | ((with_reducible show DQ _ _ _ _ _ _); first | refine DQ.stepc (LS.val tabs rfl rfl rfl) rfl rfl rfl rfl rfl ?_ | refine DQ.stepc (yu rfl rfl) rfl rfl rfl rfl rfl ?_ | refine DQ.nilM (by kernel_rfl) ?_) | refine ym ?_ | refine ya ?_ | refine yb ?_ | refine yg ?_ | refine yo ?_ | refine yc ?_ | refine yr mixed (by kernel_rfl) ?_))
  exact yal 2 rfl rfl rfl rfl rfl (by simp [cxG])
theorem qjc (f : List Node) (h : Int) (v : List Int) (a b : Int) (hf : Fit f) (he : cfP f h false ≠ 0) : GenC Tryz.prog 61 [⟨25, 1, [[u32 a]]⟩, ⟨25, 1, [[u32 b]]⟩] [fav f, iav h, .imm (.sl (v.map u16)), .fn 62 [.ptr 0 1 0 0, .ptr 1 1 0 0]] (.tup [.agg [.nils], .nils, iav (cfP f h false)]) [⟨25, 1, [[u32 a]]⟩, ⟨25, 1, [[u32 b]]⟩] := by
  have c1 := q8 f h false hf
  obtain ⟨w, hw⟩ : ∃ w, w = cfP f h false := ⟨_, rfl⟩
  rw [← hw] at c1 he ⊢
  refine yah tabs Tryz.func61 46 [.cell 8 24, .tmp 9, .tmp 10] rfl rfl rfl rfl rfl ?_; intro w0 X γ κ
  (repeat' (first | ((with_reducible show AL _ _ _ _ _); first | (refine yf tabs rfl ?_; try dsimp only [len, List.nil_append, List.cons_append]) | refine AL.op rfl (yd rfl rfl rfl rfl c1 rfl) ?_ | refine yn ?_) | ((with_reducible show DQ _ _ _ _ _ _); first | refine DQ.stepc (LS.store (i := ti24) (v := .agg [.nils]) (ty := 24) (sz := 1) (rows := [ti24.zero]) (r := ti24.zero) tabs rfl rfl rfl rfl rfl rfl rfl rfl rfl rfl (Nat.le_of_ble_eq_true rfl) rfl) rfl rfl rfl rfl rfl ?_ | refine DQ.stepc (LS.val tabs rfl rfl rfl) rfl rfl rfl rfl rfl ?_ | refine DQ.stepc (yu rfl rfl) rfl rfl rfl rfl rfl ?_ | refine DQ.nilM (by kernel_rfl) ?_) | refine ym ?_ | refine ya ?_ | refine yb ?_ | refine yg ?_ | refine yi rfl ?_ | refine yh rfl ?_ | (refine yk rfl (fun hc => ?_) (fun hc => ?_) <;> (try simp only [hsx] at hc) <;> (try first | omega | contradiction | (simp [qa] at hc; done))) | refine yo ?_ | refine yc ?_ | refine yr mixed (by kernel_rfl) ?_))
  all_goals first
    | (exfalso; exact he hc)
    | exact yal 2 rfl rfl rfl rfl rfl (by simp [cxG])
theorem qhy (f : List Node) (q : PS) (bb : Bool) (h : Int) (v : List Int) (a b : Int) (hf : Fit f) (a0 : 0 ≤ a) (a1 : a < 4294967296) (b0 : 0 ≤ b) (b1 : b < 4294967296) (hv : v.length ≤ 1000000000) (he : cfP f h false = 0) (H : PutR h a b v (pen0 f) q bb) (hw : q.why ≠ 0) : GenC Tryz.prog 61 [⟨25, 1, [[u32 a]]⟩, ⟨25, 1, [[u32 b]]⟩] [fav f, iav h, .imm (.sl (v.map u16)), .fn 62 [.ptr 0 1 0 0, .ptr 1 1 0 0]] (.tup [.agg [.nils], .nils, iav q.why]) [⟨25, 1, [[u32 a]]⟩, ⟨25, 1, [[u32 b]]⟩] := by
  have c1 := q8 f h false hf
  rw [he] at c1
  have hl := hf.len
  have hdl := (hf.at h).data
  have c2 := qw f h hl
  have hmn : ((nodeAt f h).data.map u16).length = (nodeAt f h).data.length := List.length_map _
  have c3 := qcq (pen0 f) q h a b v bb hf (by simp [pen0]) a0 a1 b0 b1 hv H
  have c4 := qeb q hw
  obtain ⟨n, hn⟩ : ∃ n, n = nodeAt f h := ⟨_, rfl⟩
  rw [← hn] at c2 hdl hmn
  unfold penB pen0 at c3
  refine yah tabs Tryz.func61 46 [.cell 8 24, .tmp 9, .tmp 10] rfl rfl rfl rfl rfl ?_; intro w0 X γ κ
  refine AW.reserve 112 3 rfl ?_
  (repeat' (first | ((with_reducible show AL _ _ _ _ _); first | refine AL.op rfl (yaz tabs rfl rfl rfl rfl rfl rfl (by omega) (by omega)) ?_ | (refine yf tabs rfl ?_; try dsimp only [len, List.nil_append, List.cons_append]) | refine AL.op rfl (yd rfl rfl rfl rfl c1 rfl) ?_ | refine yz [2] 5 rfl rfl rfl rfl rfl (caps := []) rfl (on_c f) rfl rfl rfl rfl rfl rfl rfl rfl (hpA := [⟨112, 3, [[.imm (.sl (f.map Node.iv)), .os 6 0, iav 0]]⟩, ⟨24, 1, [[.imm (.sl (f.map Node.iv))]]⟩, ⟨58, 36, []⟩]) rfl (r' := .ptr 2 1 0 0) rfl rfl ?_; try dsimp only [setAll, List.drop_succ_cons, List.drop_zero, List.drop_nil, List.set_cons_succ, List.set_cons_zero, List.cons_append, List.nil_append, List.append_nil, len] | refine AL.op rfl (yd rfl rfl rfl rfl c2 rfl) ?_ | refine yz [0, 1] 7 rfl rfl rfl rfl (caps := [.ptr 0 1 0 0, .ptr 1 1 0 0]) rfl rfl (qmg a b _) rfl rfl rfl rfl rfl rfl rfl rfl (hpA := [⟨25, 1, [[u32 a]]⟩, ⟨25, 1, [[u32 b]]⟩]) rfl (r' := .tup [u32 a, u32 b]) rfl rfl ?_ | refine yz [2, 6] 7 rfl rfl rfl rfl rfl (caps := []) rfl c3 rfl (by simp only [List.map_cons, List.map_nil, renC]; rfl) rfl rfl (by simp only [qax]; exact ⟨⟨rfl, rfl, rfl⟩, qd _ _⟩) rfl (by simp only [qax]; exact ⟨⟨rfl, rfl, rfl⟩, qd _ _⟩) rfl (hpA := [⟨112, 3, [[.imm (.sl ((q).F.map Node.iv)), .os 6 (q).L.length, iav (q).why]]⟩, ⟨58, 36, (q).L.map rowC⟩]) (by simp only [List.map_cons, List.map_nil, renC]; rfl) (r' := bav bb) rfl rfl ?_; try dsimp only [setAll, List.drop_succ_cons, List.drop_zero, List.drop_nil, List.set_cons_succ, List.set_cons_zero, List.cons_append, List.nil_append, List.append_nil, len, Nat.reduceAdd] | refine yz [2, 6] 7 rfl rfl rfl rfl rfl (caps := []) rfl c4 rfl (by simp only [List.map_cons, List.map_nil, renC]; rfl) rfl rfl (by simp only [qax]; exact ⟨⟨rfl, rfl, rfl⟩, qd _ _⟩) rfl (by simp only [qax]; exact ⟨⟨rfl, rfl, rfl⟩, qd _ _⟩) rfl (hpA := [⟨112, 3, [[.imm (.sl ((q).F.map Node.iv)), .os 6 (q).L.length, iav (q).why]]⟩, ⟨58, 36, (q).L.map rowC⟩]) (by simp only [List.map_cons, List.map_nil, renC]; rfl) (r' := .tup [.agg [.nils], .nils, iav q.why]) rfl rfl ?_; try dsimp only [setAll, List.drop_succ_cons, List.drop_zero, List.drop_nil, List.set_cons_succ, List.set_cons_zero, List.cons_append, List.nil_append, List.append_nil, len, Nat.reduceAdd] | refine yn ?_) | ((with_reducible show DQ _ _ _ _ _ _); first | refine DQ.stepc (LS.store (i := ti24) (v := .agg [.nils]) (ty := 24) (sz := 1) (rows := [ti24.zero]) (r := ti24.zero) tabs rfl rfl rfl rfl rfl rfl rfl rfl rfl rfl (Nat.le_of_ble_eq_true rfl) rfl) rfl rfl rfl rfl rfl ?_ | refine DQ.stepc (LS.val tabs rfl rfl rfl) rfl rfl rfl rfl rfl ?_ | refine DQ.stepc (yu rfl rfl) rfl rfl rfl rfl rfl ?_ | refine DQ.nilM (by kernel_rfl) ?_) | refine ym ?_ | refine ya ?_ | refine yb ?_ | refine yg ?_ | refine yi rfl ?_ | refine yh rfl ?_ | (refine yk rfl (fun hc => ?_) (fun hc => ?_) <;> (try simp only [hsx] at hc) <;> (try first | omega | contradiction | (simp [qa] at hc; done))) | refine yo ?_ | refine yc ?_ | refine yr mixed (by kernel_rfl) ?_))
  exact yal 2 rfl rfl rfl rfl rfl (by simp [cxG])
theorem qng (f : List Node) (q : PS) (bb : Bool) (h : Int) (v : List Int) (a b : Int) (hf : Fit f) (a0 : 0 ≤ a) (a1 : a < 4294967296) (b0 : 0 ≤ b) (b1 : b < 4294967296) (hv : v.length ≤ 1000000000) (he : cfP f h false = 0) (H : PutR h a b v (pen0 f) q bb) (hw : q.why = 0) (hL : q.L.length ≤ 1000000) (hL0 : q.L ≠ []) (hfc : ∀ i : Int, 0 ≤ i → i < q.L.length → FitC (atI q.L i)) : GenC Tryz.prog 61 [⟨25, 1, [[u32 a]]⟩, ⟨25, 1, [[u32 b]]⟩] [fav f, iav h, .imm (.sl (v.map u16)), .fn 62 [.ptr 0 1 0 0, .ptr 1 1 0 0]] (.tup [fav q.F, .os 8 q.L.length, iav 0]) [⟨25, 1, [[u32 a]]⟩, ⟨25, 1, [[u32 b]]⟩, ⟨112, 3, [[.imm (.sl ((q).F.map Node.iv)), .os 6 (q).L.length, iav (q).why]]⟩, ⟨24, 1, [[.imm (.sl (f.map Node.iv))]]⟩, ⟨24, 1, [[.imm (.sl ((q).F.map Node.iv))]]⟩, ⟨24, 1, [[.imm (.sl (f.map Node.iv))]]⟩, ⟨58, 36, (q).L.map rowC⟩, ⟨24, 1, [[.imm (.sl ((q).F.map Node.iv))]]⟩, ⟨58, 36, (q).L.map rowC⟩] := by
  have c1 := q8 f h false hf
  rw [he] at c1
  have hl := hf.len
  have hdl := (hf.at h).data
  have c2 := qw f h hl
  have hmn : ((nodeAt f h).data.map u16).length = (nodeAt f h).data.length := List.length_map _
  have c3 := qcq (pen0 f) q h a b v bb hf (by simp [pen0]) a0 a1 b0 b1 hv H
  have c4 := qhp q hw hL hL0 hfc
  obtain ⟨n, hn⟩ : ∃ n, n = nodeAt f h := ⟨_, rfl⟩
  rw [← hn] at c2 hdl hmn
  unfold penB pen0 at c3
  refine yah tabs Tryz.func61 46 [.cell 8 24, .tmp 9, .tmp 10] rfl rfl rfl rfl rfl ?_; intro w0 X γ κ
  refine AW.reserve 112 3 rfl ?_
  (repeat' (first | ((with_reducible show AL _ _ _ _ _); first | refine AL.op rfl (yaz tabs rfl rfl rfl rfl rfl rfl (by omega) (by omega)) ?_ | (refine yf tabs rfl ?_; try dsimp only [len, List.nil_append, List.cons_append]) | refine AL.op rfl (yd rfl rfl rfl rfl c1 rfl) ?_ | refine yz [2] 5 rfl rfl rfl rfl rfl (caps := []) rfl (on_c f) rfl rfl rfl rfl rfl rfl rfl rfl (hpA := [⟨112, 3, [[.imm (.sl (f.map Node.iv)), .os 6 0, iav 0]]⟩, ⟨24, 1, [[.imm (.sl (f.map Node.iv))]]⟩, ⟨58, 36, []⟩]) rfl (r' := .ptr 2 1 0 0) rfl rfl ?_; try dsimp only [setAll, List.drop_succ_cons, List.drop_zero, List.drop_nil, List.set_cons_succ, List.set_cons_zero, List.cons_append, List.nil_append, List.append_nil, len] | refine AL.op rfl (yd rfl rfl rfl rfl c2 rfl) ?_ | refine yz [0, 1] 7 rfl rfl rfl rfl (caps := [.ptr 0 1 0 0, .ptr 1 1 0 0]) rfl rfl (qmg a b _) rfl rfl rfl rfl rfl rfl rfl rfl (hpA := [⟨25, 1, [[u32 a]]⟩, ⟨25, 1, [[u32 b]]⟩]) rfl (r' := .tup [u32 a, u32 b]) rfl rfl ?_ | refine yz [2, 6] 7 rfl rfl rfl rfl rfl (caps := []) rfl c3 rfl (by simp only [List.map_cons, List.map_nil, renC]; rfl) rfl rfl (by simp only [qax]; exact ⟨⟨rfl, rfl, rfl⟩, qd _ _⟩) rfl (by simp only [qax]; exact ⟨⟨rfl, rfl, rfl⟩, qd _ _⟩) rfl (hpA := [⟨112, 3, [[.imm (.sl ((q).F.map Node.iv)), .os 6 (q).L.length, iav (q).why]]⟩, ⟨58, 36, (q).L.map rowC⟩]) (by simp only [List.map_cons, List.map_nil, renC]; rfl) (r' := bav bb) rfl rfl ?_; try dsimp only [setAll, List.drop_succ_cons, List.drop_zero, List.drop_nil, List.set_cons_succ, List.set_cons_zero, List.cons_append, List.nil_append, List.append_nil, len, Nat.reduceAdd] | refine yz [2, 6] 7 rfl rfl rfl rfl rfl (caps := []) rfl c4 rfl (by simp only [List.map_cons, List.map_nil, renC]; rfl) rfl rfl (by simp only [qax]; exact ⟨⟨rfl, rfl, rfl⟩, qd _ _⟩) rfl (by simp only [qax]; exact ⟨⟨rfl, rfl, rfl⟩, qd _ _, rfl, qd _ _⟩) rfl (hpA := [⟨112, 3, [[.imm (.sl ((q).F.map Node.iv)), .os 6 (q).L.length, iav (q).why]]⟩, ⟨58, 36, (q).L.map rowC⟩, ⟨24, 1, [[.imm (.sl ((q).F.map Node.iv))]]⟩, ⟨58, 36, (q).L.map rowC⟩]) (by simp only [List.map_cons, List.map_nil, renC]; rfl) (r' := .tup [fav q.F, .os 8 q.L.length, iav 0]) rfl rfl ?_; try dsimp only [setAll, List.drop_succ_cons, List.drop_zero, List.drop_nil, List.set_cons_succ, List.set_cons_zero, List.cons_append, List.nil_append, List.append_nil, len, Nat.reduceAdd] | refine yn ?_) | ((with_reducible show DQ _ _ _ _ _ _); first | refine DQ.stepc (LS.store (i := ti24) (v := fav q.F) (ty := 24) (sz := 1) (rows := [ti24.zero]) (r := ti24.zero) tabs rfl rfl rfl rfl rfl rfl rfl rfl rfl rfl (Nat.le_of_ble_eq_true rfl) rfl) rfl rfl rfl rfl rfl ?_ | refine DQ.stepc (LS.val tabs rfl rfl rfl) rfl rfl rfl rfl rfl ?_ | refine DQ.stepc (yu rfl rfl) rfl rfl rfl rfl rfl ?_ | refine DQ.nilM (by kernel_rfl) ?_) | refine ym ?_ | refine ya ?_ | refine yb ?_ | refine yg ?_ | refine yi rfl ?_ | refine yh rfl ?_ | (refine yk rfl (fun hc => ?_) (fun hc => ?_) <;> (try simp only [hsx] at hc) <;> (try first | omega | contradiction | (simp [qa] at hc; done))) | refine yo ?_ | refine yc ?_ | refine yr mixed (by kernel_rfl) ?_))
  exact yal 9 rfl rfl rfl rfl (by simp only [qax]; exact ⟨rfl, rfl, ⟨rfl, rfl, rfl⟩, rfl, rfl, rfl, qd _ _, rfl, qd _ _⟩) (by simp [cxG])
noncomputable def ansP (e : Int) (q : PS) : AV := if e ≠ 0 then .tup [fav [], .imm (.sl []), iav e] else if q.why ≠ 0 then .tup [fav [], .imm (.sl []), iav q.why] else .tup [fav q.F, .imm (.sl (q.L.map Change.iv)), iav 0]
theorem PutR.len {h a b : Int} {v : List Int} {p q : PS} {bb : Bool} (H : PutR h a b v p q bb) (h0 : p.why = 0) : q.why = 0 → q.L = p.L ++ [putC p.F h a b v] := by
  intro hq
  cases H with
  | no e => simp [refP, h0] at hq; exact absurd hq e
  | yes _ _ e H =>
    cases H with
    | stop h => exact absurd h0 h
    | bad g w _ hw _ => exact absurd hq hw
    | ok g _ _ => rfl
theorem qb7 (f : List Node) (h a b : Int) (v : List Int) (hv : v.length ≤ 1000000000) : FitC (putC f h a b v) := ⟨hv, fit0, by simp [putC, c0], by simp [putC, c0]⟩
theorem qdv (f : List Node) (q : PS) (bb : Bool) (h : Int) (v : List Int) (a b : Int) (hf : Fit f) (a0 : 0 ≤ a) (a1 : a < 4294967296) (b0 : 0 ≤ b) (b1 : b < 4294967296) (hv : v.length ≤ 1000000000) (H : cfP f h false = 0 → PutR h a b v (pen0 f) q bb) : PureC Tryz.prog 19 [fav f, iav h, u32 a, u32 b, .imm (.sl (v.map u16))] (ansP (cfP f h false) q) := by
  unfold ansP
  by_cases he : cfP f h false = 0
  · rw [if_neg (by omega)]
    have H := H he
    by_cases hw : q.why = 0
    · rw [if_neg (by omega)]
      have hLe := H.len rfl hw
      rw [show (pen0 f).L = [] from rfl, List.nil_append] at hLe
      have c1 := qng f q bb h v a b hf a0 a1 b0 b1 hv he H hw (by rw [hLe]; simp) (by rw [hLe]; simp) (by
        rw [hLe]
        intro i i0 i1
        have : i = 0 := by simp at i1; omega
        subst this
        exact qb7 _ _ _ _ _ hv)
      refine yp tabs Tryz.func19 21 [.cell 10 24, .tmp 11, .tmp 12] rfl rfl rfl rfl rfl ?_; intro w0 X
      (repeat' (first | ((with_reducible show AL _ _ _ _ _); first | (refine yf tabs rfl ?_; try dsimp only [len, List.nil_append, List.cons_append]) | refine yz [1, 2] 4 rfl rfl rfl rfl rfl (caps := []) rfl c1 rfl rfl rfl rfl rfl rfl (by simp only [qax]; exact ⟨rfl, rfl, ⟨rfl, rfl, rfl⟩, rfl, rfl, rfl, qd _ _, rfl, qd _ _⟩) rfl (hpA := [⟨25, 1, [[u32 a]]⟩, ⟨25, 1, [[u32 b]]⟩, ⟨112, 3, [[.imm (.sl ((q).F.map Node.iv)), .os 8 (q).L.length, iav (q).why]]⟩, ⟨24, 1, [[.imm (.sl (f.map Node.iv))]]⟩, ⟨24, 1, [[.imm (.sl ((q).F.map Node.iv))]]⟩, ⟨24, 1, [[.imm (.sl (f.map Node.iv))]]⟩, ⟨58, 36, (q).L.map rowC⟩, ⟨24, 1, [[.imm (.sl ((q).F.map Node.iv))]]⟩, ⟨58, 36, (q).L.map rowC⟩]) (by simp only [List.map_cons, List.map_nil, renC]; rfl) (r' := .tup [fav q.F, .os 10 q.L.length, iav 0]) rfl rfl ?_; try dsimp only [setAll, List.drop_succ_cons, List.drop_zero, List.drop_nil, List.set_cons_succ, List.set_cons_zero, List.cons_append, List.nil_append, List.append_nil, len, Nat.reduceAdd] | refine yn ?_) | ((with_reducible show DQ _ _ _ _ _ _); first | refine DQ.stepc (LS.store (i := ti24) (v := fav q.F) (ty := 24) (sz := 1) (rows := [ti24.zero]) (r := ti24.zero) tabs rfl rfl rfl rfl rfl rfl rfl rfl rfl rfl (Nat.le_of_ble_eq_true rfl) rfl) rfl rfl rfl rfl rfl ?_ | refine DQ.stepc (LS.val tabs rfl rfl rfl) rfl rfl rfl rfl rfl ?_ | refine DQ.stepc (yu rfl rfl) rfl rfl rfl rfl rfl ?_ | refine DQ.nilM (by kernel_rfl) ?_) | refine ym ?_ | refine ya ?_ | refine yb ?_ | refine yg ?_ | refine yo ?_ | refine yc ?_ | refine yr mixed (by kernel_rfl) ?_))
      exact yap rfl (ya5 (.cons (Fz.im rfl) (.cons (Fz.os (b := ⟨58, 36, q.L.map rowC⟩) (rows := q.L.map Change.iv) rfl (List.length_map _).symm (by rw [List.map_map]; rfl)) (.cons (Fz.im rfl) .nil))))
    · rw [if_pos hw]
      have c1 := qhy f q bb h v a b hf a0 a1 b0 b1 hv he H hw
      refine yp tabs Tryz.func19 21 [.cell 10 24, .tmp 11, .tmp 12] rfl rfl rfl rfl rfl ?_; intro w0 X
      (repeat' (first | ((with_reducible show AL _ _ _ _ _); first | (refine yf tabs rfl ?_; try dsimp only [len, List.nil_append, List.cons_append]) | refine yz [1, 2] 4 rfl rfl rfl rfl rfl (caps := []) rfl c1 rfl rfl rfl rfl rfl rfl rfl rfl (hpA := [⟨25, 1, [[u32 a]]⟩, ⟨25, 1, [[u32 b]]⟩]) rfl (r' := .tup [.agg [.nils], .nils, iav q.why]) rfl rfl ?_; try dsimp only [setAll, List.drop_succ_cons, List.drop_zero, List.drop_nil, List.set_cons_succ, List.set_cons_zero, List.cons_append, List.nil_append, List.append_nil, len, Nat.reduceAdd] | refine yn ?_) | ((with_reducible show DQ _ _ _ _ _ _); first | refine DQ.stepc (LS.store (i := ti24) (v := .agg [.nils]) (ty := 24) (sz := 1) (rows := [ti24.zero]) (r := ti24.zero) tabs rfl rfl rfl rfl rfl rfl rfl rfl rfl rfl (Nat.le_of_ble_eq_true rfl) rfl) rfl rfl rfl rfl rfl ?_ | refine DQ.stepc (LS.val tabs rfl rfl rfl) rfl rfl rfl rfl rfl ?_ | refine DQ.stepc (yu rfl rfl) rfl rfl rfl rfl rfl ?_ | refine DQ.nilM (by kernel_rfl) ?_) | refine ym ?_ | refine ya ?_ | refine yb ?_ | refine yg ?_ | refine yo ?_ | refine yc ?_ | refine yr mixed (by kernel_rfl) ?_))
      exact RQ.fin rfl rfl rfl
  · rw [if_pos he]
    have c1 := qjc f h v a b hf he
    refine yp tabs Tryz.func19 21 [.cell 10 24, .tmp 11, .tmp 12] rfl rfl rfl rfl rfl ?_; intro w0 X
    (repeat' (first | ((with_reducible show AL _ _ _ _ _); first | (refine yf tabs rfl ?_; try dsimp only [len, List.nil_append, List.cons_append]) | refine yz [1, 2] 4 rfl rfl rfl rfl rfl (caps := []) rfl c1 rfl rfl rfl rfl rfl rfl rfl rfl (hpA := [⟨25, 1, [[u32 a]]⟩, ⟨25, 1, [[u32 b]]⟩]) rfl (r' := .tup [.agg [.nils], .nils, iav (cfP f h false)]) rfl rfl ?_; try dsimp only [setAll, List.drop_succ_cons, List.drop_zero, List.drop_nil, List.set_cons_succ, List.set_cons_zero, List.cons_append, List.nil_append, List.append_nil, len, Nat.reduceAdd] | refine yn ?_) | ((with_reducible show DQ _ _ _ _ _ _); first | refine DQ.stepc (LS.store (i := ti24) (v := .agg [.nils]) (ty := 24) (sz := 1) (rows := [ti24.zero]) (r := ti24.zero) tabs rfl rfl rfl rfl rfl rfl rfl rfl rfl rfl (Nat.le_of_ble_eq_true rfl) rfl) rfl rfl rfl rfl rfl ?_ | refine DQ.stepc (LS.val tabs rfl rfl rfl) rfl rfl rfl rfl rfl ?_ | refine DQ.stepc (yu rfl rfl) rfl rfl rfl rfl rfl ?_ | refine DQ.nilM (by kernel_rfl) ?_) | refine ym ?_ | refine ya ?_ | refine yb ?_ | refine yg ?_ | refine yo ?_ | refine yc ?_ | refine yr mixed (by kernel_rfl) ?_))
    exact RQ.fin rfl rfl rfl
end Go.Proofs.YtmhejcnaanocpaaGreat.A
