/- Contracts: nodes and changes held against one another; copies. -/
import Derived.Test.YtjjdabihnmilgaaGreatXRTGrpAN
import Derived.Test.YtjjdabihnmilgaaGreatXRTGrpAI
import Derived.Test.YtjjdabihnmilgaaGreatXRTGrpAJ
namespace Go.Proofs.YtjjdabihnmilgaaGreat.A
set_option linter.unusedVariables false
set_option linter.unusedSimpArgs false
set_option maxRecDepth 100000
set_option maxHeartbeats 4000000
structure Change where
  kind : Int
  node : Int
  parent : Int
  index : Int
  other : Int
  doc : Int
  offset : Int
  count : Int
  data : List Int
  name : Name
  old : ByteArray
  value : ByteArray
  had : Bool
  has : Bool
  made : Node
  added : List Int
  removed : List Int
  prev : Int
  next : Int
def Change.iv (c : Change) : List IV := [.int .u8 c.kind, .int .i64 c.node, .int .i64 c.parent, .int .i64 c.index, .int .i64 c.other, .int .i64 c.doc, .int .i64 c.offset, .int .i64 c.count, .sl (c.data.map u16), .str c.name.sp, .str c.name.pf, .str c.name.lc, .str c.old, .str c.value, .bool c.had, .bool c.has, .int .u8 c.made.kind, .str c.made.name.sp, .str c.made.name.pf, .str c.made.name.lc, .str c.made.pub, .str c.made.sys, .sl (c.made.data.map u16), .sl (c.made.attrs.map Attr.iv), .int .i64 c.made.parent, .sl (c.made.kids.map i64), .int .i64 c.made.doc, .int .i64 c.made.host, .int .i64 c.made.shadow, .int .u8 c.made.mode, .bool c.made.manual, .bool c.made.html, .sl (c.added.map i64), .sl (c.removed.map i64), .int .i64 c.prev, .int .i64 c.next]
def Change.av (c : Change) : AV := .agg (c.iv.map .imm)
def e0 : Name := ⟨es, es, es⟩
def c0 : Change := ⟨0, 0, 0, 0, 0, 0, 0, 0, [], e0, es, es, false, false, n0, [], [], 0, 0⟩
instance : Inhabited Change := ⟨c0⟩
theorem name_eq (a b : Name) : a = b ↔ a.sp = b.sp ∧ a.pf = b.pf ∧ a.lc = b.lc := by
  cases a; cases b; simp
theorem attr_eq (a b : Attr) : a = b ↔ a.name = b.name ∧ a.value = b.value := by
  cases a; cases b; simp
theorem node_eq (a b : Node) : a = b ↔ a.data = b.data ∧ a.attrs = b.attrs ∧ a.kids = b.kids ∧ a.kind = b.kind ∧ a.name = b.name ∧ a.pub = b.pub ∧ a.sys = b.sys ∧ a.parent = b.parent ∧ a.doc = b.doc ∧ a.host = b.host ∧ a.shadow = b.shadow ∧ a.mode = b.mode ∧ a.manual = b.manual ∧ a.html = b.html := by
  cases a; cases b; simp; grind
theorem change_eq (a b : Change) : a = b ↔ a.data = b.data ∧ a.made = b.made ∧ a.added = b.added ∧ a.removed = b.removed ∧ (a.kind = b.kind ∧ a.node = b.node ∧ a.parent = b.parent ∧ a.index = b.index ∧ a.other = b.other ∧ a.doc = b.doc ∧ a.offset = b.offset ∧ a.count = b.count ∧ a.prev = b.prev) ∧ a.next = b.next ∧ a.name = b.name ∧ a.old = b.old ∧ a.value = b.value ∧ a.had = b.had ∧ a.has = b.has := by
  cases a; cases b; simp; grind
theorem eqt182 : EqT Tryz.prog 182 (eqvI 9) := eqtI (by kernel_rfl) Tryz.underlying182 tk3 rfl rfl Tryz.underlying3
theorem list_ne {α : Type} [Inhabited α] {a b : List α} {i : Int} (h : atI a i ≠ atI b i) : ¬ a = b := fun e => h (by rw [e])
theorem equ16_c (a b : List Int) (hl : a.length ≤ 1000000000) : PureC Tryz.prog 164 [.imm (.sl (a.map u16)), .imm (.sl (b.map u16))] (bav (dec (a = b))) := by
  refine PureC.mk tabs Tryz.func164 26 [.tmp 4] rfl rfl rfl rfl rfl ?_; intro w0 X
  (repeat' (first | ((with_reducible show AL _ _ _ _ _); first | (refine AL.step tabs rfl ?_; try dsimp only [len, List.nil_append, List.cons_append]) | refine AL.nil ?_ | (refine AL.op rfl (OpOK.ari64 rfl rfl rfl rfl rfl (by omega) (by omega)) ?_) | (refine AL.op rfl (OpOK.index_map tabs rfl rfl rfl rfl rfl rfl rfl (fun _ => rfl) (by decide) (by omega) (by omega)) ?_)) | ((with_reducible show DQ _ _ _ _ _ _); first | refine DQ.stepc (LS.val tabs rfl rfl rfl) rfl rfl rfl rfl rfl ?_ | refine DQ.stepc (LS.skip rfl rfl) rfl rfl rfl rfl rfl ?_ | refine DQ.nilM (by kernel_rfl) ?_ | refine DQ.stepc (LS.ari64 rfl rfl rfl rfl rfl rfl (by omega) (by omega)) rfl rfl rfl rfl rfl ?_ | refine DQ.stepc (LS.index_map tabs rfl rfl rfl rfl rfl rfl rfl rfl (fun _ => rfl) (by decide) (by omega) (by omega)) rfl rfl rfl rfl rfl ?_) | fail | refine AW.seq ?_ | refine AW.region ?_ | refine Then.norm ?_ | refine AW.skip ?_ | refine AW.block ?_ | refine InB.norm ?_ | refine AW.condT rfl ?_ | refine AW.condF rfl ?_ | (refine AW.cond rfl (fun hc => ?_) (fun hc => ?_) <;> (try simp only [hsx] at hc) <;> (try first | (exfalso; omega) | contradiction | (exfalso; simp [dec_eq] at hc; done))) | refine AW.ret ?_ | refine AW.exit ?_ | refine Then.ret ?_ | refine Then.exit ?_ | refine InB.ret ?_ | refine InB.here ?_ | refine InB.off rfl ?_ | refine Rnd.ret ?_ | refine Rnd.exit ?_ | refine AW.drawW mixed (by kernel_rfl) ?_))
  · rw [dec_neg (p := a = b) (fun e => by subst e; exact hc rfl)]
    exact RQ.fin rfl rfl rfl
  have hlen : a.length = b.length := by omega
  clear hc
  refine AW.loop (α := Int) (fun i => ⟨[(0, .imm (.sl (a.map u16))), (1, .imm (.sl (b.map u16))), (12, iav (a.map u16).length), (13, iav i)], []⟩) (fun i => 0 ≤ i ∧ i ≤ a.length ∧ a.take i.toNat = b.take i.toNat) (fun i => (a.length - i).toNat) 0 (Le.cut 0 rfl (by repeat' (first | exact trivial | refine ⟨rfl, ?_⟩)) rfl rfl (Nat.zero_le _)) ⟨by omega, by omega, rfl⟩ ?_
  intro i ⟨h0, h1, h2⟩
  (repeat' (first | ((with_reducible show AL _ _ _ _ _); first | (refine AL.step tabs rfl ?_; try dsimp only [len, List.nil_append, List.cons_append]) | refine AL.nil ?_ | (refine AL.op rfl (OpOK.ari64 rfl rfl rfl rfl rfl (by omega) (by omega)) ?_) | (refine AL.op rfl (OpOK.index_map tabs rfl rfl rfl rfl rfl rfl rfl (fun _ => rfl) (by decide) (by omega) (by omega)) ?_)) | ((with_reducible show DQ _ _ _ _ _ _); first | refine DQ.stepc (LS.val tabs rfl rfl rfl) rfl rfl rfl rfl rfl ?_ | refine DQ.stepc (LS.skip rfl rfl) rfl rfl rfl rfl rfl ?_ | refine DQ.nilM (by kernel_rfl) ?_ | refine DQ.stepc (LS.ari64 rfl rfl rfl rfl rfl rfl (by omega) (by omega)) rfl rfl rfl rfl rfl ?_ | refine DQ.stepc (LS.index_map tabs rfl rfl rfl rfl rfl rfl rfl rfl (fun _ => rfl) (by decide) (by omega) (by omega)) rfl rfl rfl rfl rfl ?_) | refine AW.seq ?_ | refine AW.region ?_ | refine Then.norm ?_ | refine AW.skip ?_ | refine AW.block ?_ | refine InB.norm ?_ | refine AW.condT rfl ?_ | refine AW.condF rfl ?_ | (refine AW.cond rfl (fun hc => ?_) (fun hc => ?_) <;> (try simp only [hsx] at hc) <;> (try first | (exfalso; omega) | contradiction | (exfalso; simp [dec_eq] at hc; done))) | refine AW.ret ?_ | refine AW.exit ?_ | refine Then.ret ?_ | refine Then.exit ?_ | refine InB.ret ?_ | refine InB.here ?_ | refine InB.off rfl ?_ | refine Rnd.ret ?_ | refine Rnd.exit ?_ | refine AW.drawW mixed (by kernel_rfl) ?_))
  · rw [dec_neg (p := a = b) (list_ne hc)]
    exact RQ.fin rfl rfl rfl
  · refine Rnd.norm (i + 1) (Le.cut 0 rfl (by repeat' (first | exact trivial | refine ⟨rfl, ?_⟩)) rfl rfl (Nat.zero_le _)) ⟨by omega, by omega, ?_⟩ (by omega)
    rw [take_next h0 (by assumption), take_next h0 (by omega), h2, hc]
  · rw [take_end hc, take_end (by omega)] at h2
    rw [dec_pos (p := a = b) h2]; exact RQ.fin rfl rfl rfl
theorem eqint_c (a b : List Int) (hl : a.length ≤ 1000000000) : PureC Tryz.prog 166 [.imm (.sl (a.map i64)), .imm (.sl (b.map i64))] (bav (dec (a = b))) := by
  refine PureC.mk tabs Tryz.func166 26 [.tmp 4] rfl rfl rfl rfl rfl ?_; intro w0 X
  (repeat' (first | ((with_reducible show AL _ _ _ _ _); first | (refine AL.step tabs rfl ?_; try dsimp only [len, List.nil_append, List.cons_append]) | refine AL.nil ?_ | (refine AL.op rfl (OpOK.ari64 rfl rfl rfl rfl rfl (by omega) (by omega)) ?_) | (refine AL.op rfl (OpOK.index_map tabs rfl rfl rfl rfl rfl rfl rfl (fun _ => rfl) (by decide) (by omega) (by omega)) ?_)) | ((with_reducible show DQ _ _ _ _ _ _); first | refine DQ.stepc (LS.val tabs rfl rfl rfl) rfl rfl rfl rfl rfl ?_ | refine DQ.stepc (LS.skip rfl rfl) rfl rfl rfl rfl rfl ?_ | refine DQ.nilM (by kernel_rfl) ?_ | refine DQ.stepc (LS.ari64 rfl rfl rfl rfl rfl rfl (by omega) (by omega)) rfl rfl rfl rfl rfl ?_ | refine DQ.stepc (LS.index_map tabs rfl rfl rfl rfl rfl rfl rfl rfl (fun _ => rfl) (by decide) (by omega) (by omega)) rfl rfl rfl rfl rfl ?_) | fail | refine AW.seq ?_ | refine AW.region ?_ | refine Then.norm ?_ | refine AW.skip ?_ | refine AW.block ?_ | refine InB.norm ?_ | refine AW.condT rfl ?_ | refine AW.condF rfl ?_ | (refine AW.cond rfl (fun hc => ?_) (fun hc => ?_) <;> (try simp only [hsx] at hc) <;> (try first | (exfalso; omega) | contradiction | (exfalso; simp [dec_eq] at hc; done))) | refine AW.ret ?_ | refine AW.exit ?_ | refine Then.ret ?_ | refine Then.exit ?_ | refine InB.ret ?_ | refine InB.here ?_ | refine InB.off rfl ?_ | refine Rnd.ret ?_ | refine Rnd.exit ?_ | refine AW.drawW mixed (by kernel_rfl) ?_))
  · rw [dec_neg (p := a = b) (fun e => by subst e; exact hc rfl)]
    exact RQ.fin rfl rfl rfl
  have hlen : a.length = b.length := by omega
  clear hc
  refine AW.loop (α := Int) (fun i => ⟨[(0, .imm (.sl (a.map i64))), (1, .imm (.sl (b.map i64))), (12, iav (a.map i64).length), (13, iav i)], []⟩) (fun i => 0 ≤ i ∧ i ≤ a.length ∧ a.take i.toNat = b.take i.toNat) (fun i => (a.length - i).toNat) 0 (Le.cut 0 rfl (by repeat' (first | exact trivial | refine ⟨rfl, ?_⟩)) rfl rfl (Nat.zero_le _)) ⟨by omega, by omega, rfl⟩ ?_
  intro i ⟨h0, h1, h2⟩
  (repeat' (first | ((with_reducible show AL _ _ _ _ _); first | (refine AL.step tabs rfl ?_; try dsimp only [len, List.nil_append, List.cons_append]) | refine AL.nil ?_ | (refine AL.op rfl (OpOK.ari64 rfl rfl rfl rfl rfl (by omega) (by omega)) ?_) | (refine AL.op rfl (OpOK.index_map tabs rfl rfl rfl rfl rfl rfl rfl (fun _ => rfl) (by decide) (by omega) (by omega)) ?_)) | ((with_reducible show DQ _ _ _ _ _ _); first | refine DQ.stepc (LS.val tabs rfl rfl rfl) rfl rfl rfl rfl rfl ?_ | refine DQ.stepc (LS.skip rfl rfl) rfl rfl rfl rfl rfl ?_ | refine DQ.nilM (by kernel_rfl) ?_ | refine DQ.stepc (LS.ari64 rfl rfl rfl rfl rfl rfl (by omega) (by omega)) rfl rfl rfl rfl rfl ?_ | refine DQ.stepc (LS.index_map tabs rfl rfl rfl rfl rfl rfl rfl rfl (fun _ => rfl) (by decide) (by omega) (by omega)) rfl rfl rfl rfl rfl ?_) | refine AW.seq ?_ | refine AW.region ?_ | refine Then.norm ?_ | refine AW.skip ?_ | refine AW.block ?_ | refine InB.norm ?_ | refine AW.condT rfl ?_ | refine AW.condF rfl ?_ | (refine AW.cond rfl (fun hc => ?_) (fun hc => ?_) <;> (try simp only [hsx] at hc) <;> (try first | (exfalso; omega) | contradiction | (exfalso; simp [dec_eq] at hc; done))) | refine AW.ret ?_ | refine AW.exit ?_ | refine Then.ret ?_ | refine Then.exit ?_ | refine InB.ret ?_ | refine InB.here ?_ | refine InB.off rfl ?_ | refine Rnd.ret ?_ | refine Rnd.exit ?_ | refine AW.drawW mixed (by kernel_rfl) ?_))
  · rw [dec_neg (p := a = b) (list_ne hc)]
    exact RQ.fin rfl rfl rfl
  · refine Rnd.norm (i + 1) (Le.cut 0 rfl (by repeat' (first | exact trivial | refine ⟨rfl, ?_⟩)) rfl rfl (Nat.zero_le _)) ⟨by omega, by omega, ?_⟩ (by omega)
    rw [take_next h0 (by assumption), take_next h0 (by omega), h2, hc]
  · rw [take_end hc, take_end (by omega)] at h2
    rw [dec_pos (p := a = b) h2]; exact RQ.fin rfl rfl rfl
theorem eqattr_c (a b : List Attr) (hl : a.length ≤ 1000000000) : PureC Tryz.prog 208 [.imm (.sl (a.map Attr.iv)), .imm (.sl (b.map Attr.iv))] (bav (dec (a = b))) := by
  refine PureC.mk tabs Tryz.func208 26 [.tmp 4] rfl rfl rfl rfl rfl ?_; intro w0 X
  (repeat' (first | ((with_reducible show AL _ _ _ _ _); first | (refine AL.step tabs rfl ?_; try dsimp only [len, List.nil_append, List.cons_append]) | refine AL.nil ?_ | (refine AL.op rfl (OpOK.ari64 rfl rfl rfl rfl rfl (by omega) (by omega)) ?_) | (refine AL.op rfl (OpOK.index_map tabs rfl rfl rfl rfl rfl rfl rfl (fun _ => rfl) (by decide) (by omega) (by omega)) ?_) | (refine AL.op rfl (OpOK.eqs rfl rfl rfl rfl eqt176 rfl rfl) ?_)) | ((with_reducible show DQ _ _ _ _ _ _); first | refine DQ.stepc (LS.val tabs rfl rfl rfl) rfl rfl rfl rfl rfl ?_ | refine DQ.stepc (LS.skip rfl rfl) rfl rfl rfl rfl rfl ?_ | refine DQ.nilM (by kernel_rfl) ?_ | refine DQ.stepc (LS.ari64 rfl rfl rfl rfl rfl rfl (by omega) (by omega)) rfl rfl rfl rfl rfl ?_ | refine DQ.stepc (LS.index_map tabs rfl rfl rfl rfl rfl rfl rfl rfl (fun _ => rfl) (by decide) (by omega) (by omega)) rfl rfl rfl rfl rfl ?_ | refine DQ.stepc (LS.eqs rfl rfl rfl rfl rfl eqt176 rfl rfl) rfl rfl rfl rfl rfl ?_) | fail | refine AW.seq ?_ | refine AW.region ?_ | refine Then.norm ?_ | refine AW.skip ?_ | refine AW.block ?_ | refine InB.norm ?_ | refine AW.condT rfl ?_ | refine AW.condF rfl ?_ | (refine AW.cond rfl (fun hc => ?_) (fun hc => ?_) <;> (try simp only [hsx] at hc) <;> (try first | (exfalso; omega) | contradiction | (exfalso; simp [dec_eq] at hc; done))) | refine AW.ret ?_ | refine AW.exit ?_ | refine Then.ret ?_ | refine Then.exit ?_ | refine InB.ret ?_ | refine InB.here ?_ | refine InB.off rfl ?_ | refine Rnd.ret ?_ | refine Rnd.exit ?_ | refine AW.drawW mixed (by kernel_rfl) ?_))
  · rw [dec_neg (p := a = b) (fun e => by subst e; exact hc rfl)]
    exact RQ.fin rfl rfl rfl
  have hlen : a.length = b.length := by omega
  clear hc
  refine AW.loop (α := Int) (fun i => ⟨[(0, .imm (.sl (a.map Attr.iv))), (1, .imm (.sl (b.map Attr.iv))), (12, iav (a.map Attr.iv).length), (13, iav i)], []⟩) (fun i => 0 ≤ i ∧ i ≤ a.length ∧ a.take i.toNat = b.take i.toNat) (fun i => (a.length - i).toNat) 0 (Le.cut 0 rfl (by repeat' (first | exact trivial | refine ⟨rfl, ?_⟩)) rfl rfl (Nat.zero_le _)) ⟨by omega, by omega, rfl⟩ ?_
  intro i ⟨h0, h1, h2⟩
  (repeat' (first | ((with_reducible show AL _ _ _ _ _); first | (refine AL.step tabs rfl ?_; try dsimp only [len, List.nil_append, List.cons_append]) | refine AL.nil ?_ | (refine AL.op rfl (OpOK.ari64 rfl rfl rfl rfl rfl (by omega) (by omega)) ?_) | (refine AL.op rfl (OpOK.index_map tabs rfl rfl rfl rfl rfl rfl rfl (fun _ => rfl) (by decide) (by omega) (by omega)) ?_) | (refine AL.op rfl (OpOK.eqs rfl rfl rfl rfl eqt176 rfl rfl) ?_)) | ((with_reducible show DQ _ _ _ _ _ _); first | refine DQ.stepc (LS.val tabs rfl rfl rfl) rfl rfl rfl rfl rfl ?_ | refine DQ.stepc (LS.skip rfl rfl) rfl rfl rfl rfl rfl ?_ | refine DQ.nilM (by kernel_rfl) ?_ | refine DQ.stepc (LS.ari64 rfl rfl rfl rfl rfl rfl (by omega) (by omega)) rfl rfl rfl rfl rfl ?_ | refine DQ.stepc (LS.index_map tabs rfl rfl rfl rfl rfl rfl rfl rfl (fun _ => rfl) (by decide) (by omega) (by omega)) rfl rfl rfl rfl rfl ?_ | refine DQ.stepc (LS.eqs rfl rfl rfl rfl rfl eqt176 rfl rfl) rfl rfl rfl rfl rfl ?_) | refine AW.seq ?_ | refine AW.region ?_ | refine Then.norm ?_ | refine AW.skip ?_ | refine AW.block ?_ | refine InB.norm ?_ | refine AW.condT rfl ?_ | refine AW.condF rfl ?_ | (refine AW.cond rfl (fun hc => ?_) (fun hc => ?_) <;> (try simp only [hsx] at hc) <;> (try first | (exfalso; omega) | contradiction | (exfalso; simp [dec_eq] at hc; done))) | refine AW.ret ?_ | refine AW.exit ?_ | refine Then.ret ?_ | refine Then.exit ?_ | refine InB.ret ?_ | refine InB.here ?_ | refine InB.off rfl ?_ | refine Rnd.ret ?_ | refine Rnd.exit ?_ | refine AW.drawW mixed (by kernel_rfl) ?_))
  · rw [dec_neg (p := a = b) (list_ne (i := i) (fun e => by rw [e] at hc; simp [dec_eq] at hc))]
    exact RQ.fin rfl rfl rfl
  · have e : atI a i = atI b i := by
      simp only [Bool.and_eq_true, dec_true] at hc
      rw [attr_eq, name_eq]; grind
    refine Rnd.norm (i + 1) (Le.cut 0 rfl (by repeat' (first | exact trivial | refine ⟨rfl, ?_⟩)) rfl rfl (Nat.zero_le _)) ⟨by omega, by omega, ?_⟩ (by omega)
    rw [take_next h0 (by assumption), take_next h0 (by omega), h2, e]
  · rw [take_end hc, take_end (by omega)] at h2
    rw [dec_pos (p := a = b) h2]; exact RQ.fin rfl rfl rfl
def restAv (n : Node) : AV := .agg [kav n.kind, sav n.name.sp, sav n.name.pf, sav n.name.lc, sav n.pub, sav n.sys, iav n.parent, iav n.doc, iav n.host, iav n.shadow, kav n.mode, bav n.manual, bav n.html]
theorem rest_c (n : Node) : PureC Tryz.prog 209 [n.av] (restAv n) := by
  refine PureC.mk tabs Tryz.func209 26 [.cell 2 219] rfl rfl rfl rfl rfl ?_; intro w0 X
  (repeat' (first | ((with_reducible show AL _ _ _ _ _); first | (refine AL.step tabs rfl ?_; try dsimp only [len, List.nil_append, List.cons_append]) | refine AL.nil ?_) | refine AW.seq ?_ | refine AW.region ?_ | refine Then.norm ?_ | refine AW.skip ?_ | refine AW.ret ?_ | refine Then.ret ?_))
  exact RQ.fin rfl rfl rfl
theorem sameNode_c (a b : Node) (ha : FitN a) : PureC Tryz.prog 165 [a.av, b.av] (bav (dec (a = b))) := by
  refine PureC.mk tabs Tryz.func165 35 [.tmp 4] rfl rfl rfl rfl rfl ?_; intro w0 X
  (repeat' (first | ((with_reducible show AL _ _ _ _ _); first | (refine AL.step tabs rfl ?_; try dsimp only [len, List.nil_append, List.cons_append]) | refine AL.op rfl (OpOK.call rfl rfl rfl rfl (equ16_c a.data b.data ha.data) rfl) ?_ | refine AL.op rfl (OpOK.call rfl rfl rfl rfl (eqattr_c a.attrs b.attrs ha.attrs) rfl) ?_ | refine AL.op rfl (OpOK.call rfl rfl rfl rfl (eqint_c a.kids b.kids ha.kids) rfl) ?_ | refine AL.nil ?_ | (refine AL.gsplitE rfl rfl rfl (fun hc => ?_) (fun hc => ?_) <;> (fail_if_success (exact absurd hc (by decide))) <;> (try simp only [hsx] at hc) <;> (try first | (exfalso; omega) | contradiction | (exfalso; simp [dec_eq] at hc; done))) | (refine AL.op rfl (OpOK.eqs rfl rfl rfl rfl eqt219 rfl rfl) ?_)) | ((with_reducible show DQ _ _ _ _ _ _); first | refine DQ.stepc (LS.call rfl rfl rfl rfl rfl (rest_c a) rfl) rfl rfl rfl rfl rfl ?_ | refine DQ.stepc (LS.call rfl rfl rfl rfl rfl (rest_c b) rfl) rfl rfl rfl rfl rfl ?_ | refine DQ.stepc (LS.val tabs rfl rfl rfl) rfl rfl rfl rfl rfl ?_ | refine DQ.stepc (LS.skip rfl rfl) rfl rfl rfl rfl rfl ?_ | refine DQ.nilM (by kernel_rfl) ?_ | (refine DQ.gsplitE rfl rfl rfl (fun hc => ?_) (fun hc => ?_) <;> (fail_if_success (exact absurd hc (by decide))) <;> (try simp only [hsx] at hc) <;> (try first | (exfalso; omega) | contradiction | (exfalso; simp [dec_eq] at hc; done))) | refine DQ.stepc (LS.eqs rfl rfl rfl rfl rfl eqt219 rfl rfl) rfl rfl rfl rfl rfl ?_) | refine AW.seq ?_ | refine AW.region ?_ | refine Then.norm ?_ | refine AW.skip ?_ | refine AW.condT rfl ?_ | refine AW.condF rfl ?_ | (refine AW.cond rfl (fun hc => ?_) (fun hc => ?_) <;> (try simp only [hsx] at hc) <;> (try first | (exfalso; omega) | contradiction | (exfalso; simp [dec_eq] at hc; done))) | refine AW.ret ?_ | refine Then.ret ?_ | refine AW.drawW mixed (by kernel_rfl) ?_))
  all_goals (refine RQ.fin rfl rfl (congrArg bav ?_); rw [Bool.eq_iff_iff]; simp only [Bool.and_eq_true, dec_true, node_eq, name_eq, beq_iff_eq]; grind)
def numsAv (c : Change) : AV := .agg [iav c.kind, iav c.node, iav c.parent, iav c.index, iav c.other, iav c.doc, iav c.offset, iav c.count, iav c.prev]
theorem nums_c (c : Change) (h0 : 0 ≤ c.kind) (h1 : c.kind < 256) : PureC Tryz.prog 167 [c.av] (numsAv c) := by
  rw [show numsAv c = .agg [iav (IntKind.i64.wrap c.kind), iav c.node, iav c.parent, iav c.index, iav c.other, iav c.doc, iav c.offset, iav c.count, iav c.prev] by rw [i64_id (by omega) (by omega)]; rfl]
  refine PureC.mk tabs Tryz.func167 23 [.cell 2 182] rfl rfl rfl rfl rfl ?_; intro w0 X
  (repeat' (first | ((with_reducible show AL _ _ _ _ _); first | (refine AL.step tabs rfl ?_; try dsimp only [len, List.nil_append, List.cons_append]) | refine AL.op rfl (OpOK.convInt tabs rfl rfl rfl rfl rfl rfl) ?_ | refine AL.op rfl (OpOK.buildArr tabs rfl rfl rfl rfl Tryz.underlying182 rfl rfl) ?_ | refine AL.nil ?_) | refine AW.seq ?_ | refine AW.region ?_ | refine Then.norm ?_ | refine AW.skip ?_ | refine AW.ret ?_ | refine Then.ret ?_))
  exact RQ.fin rfl rfl rfl
end Go.Proofs.YtjjdabihnmilgaaGreat.A
namespace Go.Proofs.YtjjdabihnmilgaaGreat.A
set_option linter.unusedVariables false
set_option linter.unusedSimpArgs false
set_option maxRecDepth 100000
set_option maxHeartbeats 4000000
theorem pure_true {P : Program} {f : FuncId} {args : List AV} {p : Prop} (h : PureC P f args (bav (dec p))) (hp : p) : PureC P f args (bav true) := by rw [dec_pos hp] at h; exact h
theorem sameChange_c (a b : Change) (ha : a.data.length ≤ 1000000000) (hm : FitN a.made) (h3 : a.added.length ≤ 1000000000) (h4 : a.removed.length ≤ 1000000000) (ha0 : 0 ≤ a.kind) (ha1 : a.kind < 256) (hb0 : 0 ≤ b.kind) (hb1 : b.kind < 256) : PureC Tryz.prog 92 [a.av, b.av] (bav (dec (a = b))) := by
  refine PureC.mk tabs Tryz.func92 85 [.tmp 4] rfl rfl rfl rfl rfl ?_; intro w0 X
  (repeat' (first | ((with_reducible show AL _ _ _ _ _); first | (refine AL.step tabs rfl ?_; try dsimp only [len, List.nil_append, List.cons_append]) | refine AL.op rfl (OpOK.call rfl rfl rfl rfl (equ16_c a.data b.data ha) rfl) ?_ | refine AL.op rfl (OpOK.call rfl rfl rfl rfl (sameNode_c a.made b.made hm) rfl) ?_ | refine AL.op rfl (OpOK.call rfl rfl rfl rfl (eqint_c a.added b.added h3) rfl) ?_ | refine AL.op rfl (OpOK.call rfl rfl rfl rfl (eqint_c a.removed b.removed h4) rfl) ?_ | refine AL.nil ?_ | (refine AL.gsplitE rfl rfl rfl (fun hc => ?_) (fun hc => ?_) <;> (fail_if_success (exact absurd hc (by decide))) <;> (try simp only [hsx] at hc) <;> (try first | (exfalso; omega) | contradiction | (exfalso; simp [dec_eq] at hc; done))) | (refine AL.op rfl (OpOK.eqs rfl rfl rfl rfl eqt75 rfl rfl) ?_)) | ((with_reducible show DQ _ _ _ _ _ _); first | refine DQ.stepc (LS.call rfl rfl rfl rfl rfl (nums_c a ha0 ha1) rfl) rfl rfl rfl rfl rfl ?_ | refine DQ.stepc (LS.call rfl rfl rfl rfl rfl (nums_c b hb0 hb1) rfl) rfl rfl rfl rfl rfl ?_ | refine DQ.stepc (LS.eqs rfl rfl rfl rfl rfl eqt182 rfl rfl) rfl rfl rfl rfl rfl ?_ | refine DQ.stepc (LS.val tabs rfl rfl rfl) rfl rfl rfl rfl rfl ?_ | refine DQ.stepc (LS.skip rfl rfl) rfl rfl rfl rfl rfl ?_ | refine DQ.nilM (by kernel_rfl) ?_ | (refine DQ.gsplitE rfl rfl rfl (fun hc => ?_) (fun hc => ?_) <;> (fail_if_success (exact absurd hc (by decide))) <;> (try simp only [hsx] at hc) <;> (try first | (exfalso; omega) | contradiction | (exfalso; simp [dec_eq] at hc; done))) | refine DQ.stepc (LS.eqs rfl rfl rfl rfl rfl eqt75 rfl rfl) rfl rfl rfl rfl rfl ?_) | refine AW.seq ?_ | refine AW.region ?_ | refine Then.norm ?_ | refine AW.skip ?_ | refine AW.condT rfl ?_ | refine AW.condF rfl ?_ | (refine AW.cond rfl (fun hc => ?_) (fun hc => ?_) <;> (try simp only [hsx] at hc) <;> (try first | (exfalso; omega) | contradiction | (exfalso; simp [dec_eq] at hc; done))) | refine AW.ret ?_ | refine Then.ret ?_ | refine AW.drawW mixed (by kernel_rfl) ?_))
  all_goals
    refine RQ.fin rfl rfl (congrArg bav ?_)
    rw [Bool.eq_iff_iff]
    simp only [Bool.and_eq_true, dec_true, change_eq, name_eq, beq_iff_eq]
    try simp only [List.cons.injEq, and_true, Bool.and_eq_false_iff, Bool.and_eq_true, dec_true, dec_false] at *
    grind
theorem sameSelf_c (a : Change) (ha : a.data.length ≤ 1000000000) (hm : FitN a.made) (h3 : a.added.length ≤ 1000000000) (h4 : a.removed.length ≤ 1000000000) (ha0 : 0 ≤ a.kind) (ha1 : a.kind < 256) : PureC Tryz.prog 92 [a.av, a.av] (bav true) := pure_true (sameChange_c a a ha hm h3 h4 ha0 ha1 ha0 ha1) rfl
end Go.Proofs.YtjjdabihnmilgaaGreat.A
namespace Go.Proofs.YtjjdabihnmilgaaGreat.A
set_option linter.unusedVariables false
set_option linter.unusedSimpArgs false
set_option maxRecDepth 100000
set_option maxHeartbeats 4000000
theorem cloneD_c (l : List Int) (hl : l.length ≤ 1000000000) : PureC Tryz.prog 139 [.imm (.sl (l.map u16))] (.imm (.sl (l.map u16))) := by
  refine PureC.mk tabs Tryz.func139 8 [.tmp 2] rfl rfl rfl rfl rfl ?_; intro w0 X
  (repeat' (first | ((with_reducible show AL _ _ _ _ _); first | (refine AL.step tabs rfl ?_; try dsimp only [len, List.nil_append, List.cons_append]) | refine AL.slnil tabs rfl rfl rfl rfl rfl rfl rfl (fun b hb => ?_) | refine AL.ope rfl (OpOK.append_os (ie := ti132) (b := ⟨132, 1, []⟩) tabs rfl rfl rfl rfl rfl rfl rfl rfl rfl rfl (SrcA.imm (rows := l.map u16) tabs rfl rfl rfl (by simp [u16, ti132])) (by simp [ti132, chunk]; omega) (by simp [chunk]; omega)) rfl ?_ | refine AL.nil ?_) | refine AW.seq ?_ | refine AW.region ?_ | refine Then.norm ?_ | refine AW.skip ?_ | refine AW.condT rfl ?_ | refine AW.condF rfl ?_ | (refine AW.cond rfl (fun hc => ?_) (fun hc => ?_) <;> (try simp only [hsx] at hc) <;> (try first | (exfalso; omega) | contradiction | (exfalso; simp [dec_eq] at hc; done))) | refine AW.ret ?_ | refine Then.ret ?_))
  · have e : l = [] := by simpa using hb hc
    subst e; exact RQ.fin rfl rfl rfl
  · exact RQ.ret rfl (Fz.os (b := ⟨132, 1, (l.map u16).map (·.map .imm)⟩) (rows := l.map u16) rfl (by simp) rfl)
theorem cloneA_c (l : List Attr) (hl : l.length ≤ 1000000000) : PureC Tryz.prog 140 [.imm (.sl (l.map Attr.iv))] (.imm (.sl (l.map Attr.iv))) := by
  refine PureC.mk tabs Tryz.func140 8 [.tmp 2] rfl rfl rfl rfl rfl ?_; intro w0 X
  (repeat' (first | ((with_reducible show AL _ _ _ _ _); first | (refine AL.step tabs rfl ?_; try dsimp only [len, List.nil_append, List.cons_append]) | refine AL.slnil tabs rfl rfl rfl rfl rfl rfl rfl (fun b hb => ?_) | refine AL.ope rfl (OpOK.append_os (ie := ti176) (b := ⟨176, 4, []⟩) tabs rfl rfl rfl rfl rfl rfl rfl rfl rfl rfl (SrcA.imm (rows := l.map Attr.iv) tabs rfl rfl rfl (by simp [Attr.iv, ti176])) (by simp [ti176, chunk]; omega) (by simp [chunk]; omega)) rfl ?_ | refine AL.nil ?_) | refine AW.seq ?_ | refine AW.region ?_ | refine Then.norm ?_ | refine AW.skip ?_ | refine AW.condT rfl ?_ | refine AW.condF rfl ?_ | (refine AW.cond rfl (fun hc => ?_) (fun hc => ?_) <;> (try simp only [hsx] at hc) <;> (try first | (exfalso; omega) | contradiction | (exfalso; simp [dec_eq] at hc; done))) | refine AW.ret ?_ | refine Then.ret ?_))
  · have e : l = [] := by simpa using hb hc
    subst e; exact RQ.fin rfl rfl rfl
  · exact RQ.ret rfl (Fz.os (b := ⟨176, 4, (l.map Attr.iv).map (·.map .imm)⟩) (rows := l.map Attr.iv) rfl (by simp) rfl)
theorem cloneI_c (l : List Int) (hl : l.length ≤ 1000000000) : PureC Tryz.prog 141 [.imm (.sl (l.map i64))] (.imm (.sl (l.map i64))) := by
  refine PureC.mk tabs Tryz.func141 8 [.tmp 2] rfl rfl rfl rfl rfl ?_; intro w0 X
  (repeat' (first | ((with_reducible show AL _ _ _ _ _); first | (refine AL.step tabs rfl ?_; try dsimp only [len, List.nil_append, List.cons_append]) | refine AL.slnil tabs rfl rfl rfl rfl rfl rfl rfl (fun b hb => ?_) | refine AL.ope rfl (OpOK.append_os (ie := ti3) (b := ⟨3, 1, []⟩) tabs rfl rfl rfl rfl rfl rfl rfl rfl rfl rfl (SrcA.imm (rows := l.map i64) tabs rfl rfl rfl (by simp [i64, ti3])) (by simp [ti3, chunk]; omega) (by simp [chunk]; omega)) rfl ?_ | refine AL.nil ?_) | refine AW.seq ?_ | refine AW.region ?_ | refine Then.norm ?_ | refine AW.skip ?_ | refine AW.condT rfl ?_ | refine AW.condF rfl ?_ | (refine AW.cond rfl (fun hc => ?_) (fun hc => ?_) <;> (try simp only [hsx] at hc) <;> (try first | (exfalso; omega) | contradiction | (exfalso; simp [dec_eq] at hc; done))) | refine AW.ret ?_ | refine Then.ret ?_))
  · have e : l = [] := by simpa using hb hc
    subst e; exact RQ.fin rfl rfl rfl
  · exact RQ.ret rfl (Fz.os (b := ⟨3, 1, (l.map i64).map (·.map .imm)⟩) (rows := l.map i64) rfl (by simp) rfl)
theorem copyNode_c (n : Node) (hn : FitN n) : PureC Tryz.prog 90 [n.av] n.av := by
  refine PureC.mk tabs Tryz.func90 16 [.cell 2 81] rfl rfl rfl rfl rfl ?_; intro w0 X
  (repeat' (first | ((with_reducible show AL _ _ _ _ _); first | (refine AL.step tabs rfl ?_; try dsimp only [len, List.nil_append, List.cons_append]) | refine AL.op rfl (OpOK.call rfl rfl rfl rfl (cloneD_c n.data hn.data) rfl) ?_ | refine AL.op rfl (OpOK.call rfl rfl rfl rfl (cloneA_c n.attrs hn.attrs) rfl) ?_ | refine AL.op rfl (OpOK.call rfl rfl rfl rfl (cloneI_c n.kids hn.kids) rfl) ?_ | refine AL.nil ?_) | refine AW.seq ?_ | refine AW.region ?_ | refine Then.norm ?_ | refine AW.skip ?_ | refine AW.ret ?_ | refine Then.ret ?_))
  exact RQ.fin rfl rfl rfl
def plainLn (c : Change) : Change := { c0 with kind := c.kind, node := c.node, parent := c.parent, index := c.index }
theorem plainLink_c (c : Change) : PureC Tryz.prog 145 [c.av] (plainLn c).av := by
  refine PureC.mk tabs Tryz.func145 12 [.cell 2 83] rfl rfl rfl rfl rfl ?_; intro w0 X
  (repeat' (first | ((with_reducible show AL _ _ _ _ _); first | (refine AL.step tabs rfl ?_; try dsimp only [len, List.nil_append, List.cons_append]) | refine AL.nil ?_) | refine AW.seq ?_ | refine AW.region ?_ | refine Then.norm ?_ | refine AW.skip ?_ | refine AW.ret ?_ | refine Then.ret ?_))
  exact RQ.fin rfl rfl rfl
end Go.Proofs.YtjjdabihnmilgaaGreat.A
namespace Go.Proofs.YtjjdabihnmilgaaGreat.A
set_option linter.unusedVariables false
set_option linter.unusedSimpArgs false
set_option maxRecDepth 100000
set_option maxHeartbeats 4000000
theorem cloneIl_c (l : List Int) (hl : l.length ≤ 1000000000) (hne : l ≠ []) : GenC Tryz.prog 141 [⟨3, 1, []⟩] [.imm (.sl (l.map i64))] (.os 0 l.length) [⟨3, 1, l.map cI⟩] := by
  have e : (l.map i64).map (·.map AV.imm) = l.map cI := by simp [cI, i64, iav]
  have e1 : ((l.map i64).map (·.map AV.imm)).length = l.length := by simp
  refine GenC.mk tabs Tryz.func141 8 [.tmp 2] rfl rfl rfl rfl rfl ?_; intro w0 X γ κ
  (repeat' (first | ((with_reducible show AL _ _ _ _ _); first | refine AL.ope rfl (OpOK.lit0 tabs rfl rfl rfl rfl rfl rfl) rfl ?_ | (refine AL.step tabs rfl ?_; try dsimp only [len, List.nil_append, List.cons_append]) | refine AL.slnil tabs rfl rfl rfl rfl rfl rfl rfl (fun b hb => ?_) | refine AL.ope rfl (OpOK.append_nocap_at 0 (ie := ti3) tabs rfl rfl rfl rfl rfl (by decide) rfl rfl rfl (rows2 := (l.map i64).map (·.map AV.imm)) (by simpa using hne) (SrcA.imm (rows := l.map i64) tabs rfl rfl rfl (by simp [i64, ti3])) (by simp [ti3]; omega) (by simp; omega)) rfl ?_ | refine AL.nil ?_) | refine AW.seq ?_ | refine AW.region ?_ | refine Then.norm ?_ | refine AW.skip ?_ | refine AW.condT rfl ?_ | refine AW.condF rfl ?_ | (refine AW.cond rfl (fun hc => ?_) (fun hc => ?_) <;> (try simp only [hsx] at hc) <;> (try first | (exfalso; omega) | contradiction | (exfalso; simp [dec_eq] at hc; done))) | refine AW.ret ?_ | refine Then.ret ?_))
  · have e : l = [] := by simpa using hb hc
    exact absurd e hne
  · refine RG.ret 1 rfl ?_ ?_ rfl ?_ (by simp [cxG])
    · show AV.os 0 ((l.map i64).map (·.map AV.imm)).length = _
      rw [e1]
    · show _ = [(⟨3, 1, (l.map i64).map (·.map AV.imm)⟩ : Blk)]
      rw [e]
    · exact (by simp only [List.all_cons, List.all_nil, List.all_map, Function.comp_def, cI, cB, iav, bav, AV.sc1, AV.sc0, Bool.and_true, Bool.and_self, all_tt]; try rfl)
def nodeRow (n : Node) (k : AV) : List AV := [kav n.kind, sav n.name.sp, sav n.name.pf, sav n.name.lc, sav n.pub, sav n.sys, .imm (.sl (n.data.map u16)), .imm (.sl (n.attrs.map Attr.iv)), iav n.parent, k, iav n.doc, iav n.host, iav n.shadow, kav n.mode, bav n.manual, bav n.html]
def rowS (n : Node) : List AV := n.iv.map .imm
theorem copyNodeK_c (n : Node) (hn : FitN n) (hk : n.kids ≠ []) : GenC Tryz.prog 90 [⟨3, 1, []⟩] [n.av] (.agg (nodeRow n (.os 0 n.kids.length))) [⟨3, 1, n.kids.map cI⟩] := by
  have eR : ∀ m : Nat, (n.kids.map cI).map (·.map (ren1 (rho [0] m))) = n.kids.map cI := by
    intro m; simp [cI, iav, ren1, ren0]
  refine GenC.mk tabs Tryz.func90 16 [.cell 2 81] rfl rfl rfl rfl rfl ?_; intro w0 X γ κ
  (repeat' (first | ((with_reducible show AL _ _ _ _ _); first | (refine AL.step tabs rfl ?_; try dsimp only [len, List.nil_append, List.cons_append]) | refine AL.op rfl (OpOK.call rfl rfl rfl rfl (cloneD_c n.data hn.data) rfl) ?_ | refine AL.op rfl (OpOK.call rfl rfl rfl rfl (cloneA_c n.attrs hn.attrs) rfl) ?_ | refine AL.callG [0] 3 rfl rfl rfl rfl rfl (caps := []) rfl (cloneIl_c n.kids hn.kids hk) rfl rfl rfl rfl rfl rfl (by simp only [List.all_cons, List.all_nil, List.all_map, Function.comp_def, cI, cB, iav, bav, AV.sc1, AV.sc0, Bool.and_true, Bool.and_self, all_tt]; try rfl) rfl (hpA := [⟨3, 1, n.kids.map cI⟩]) (by simp only [List.map_cons, List.map_nil, renB, eR]) rfl rfl ?_ | refine AL.nil ?_) | refine AW.seq ?_ | refine AW.region ?_ | refine Then.norm ?_ | refine AW.skip ?_ | refine AW.ret ?_ | refine Then.ret ?_))
  refine RG.ret 1 rfl rfl rfl rfl ?_ (by simp [cxG])
  exact (by simp only [List.all_cons, List.all_nil, List.all_map, Function.comp_def, cI, cB, iav, bav, AV.sc1, AV.sc0, Bool.and_true, Bool.and_self, all_tt]; try rfl)
def AV.dat : AV → Bool
  | .imm _ => true
  | .nocap => true
  | _ => false
theorem im1_cell {v : AV} (h : v.dat = true) : v.cell = true := by cases v <;> first | rfl | (cases h; done)
theorem im1_sc1 {v : AV} (k : Nat) (h : v.dat = true) : v.sc1 k = true := by cases v <;> first | rfl | (cases h; done)
theorem all_im {T : List (List AV)} (h : T.all (fun r => r.all AV.dat) = true) (k : Nat) : T.all (fun r => r.all (AV.sc1 k)) = true := by
  simp only [List.all_eq_true] at h ⊢
  exact fun r hr c hc => im1_sc1 k (h r hr c hc)
theorem take_set {α : Type} [Inhabited α] (T : List α) (z : α) (n : Nat) (i : Int) (hT : T.length = n) (h0 : 0 ≤ i) (h1 : i < n) : (T.take i.toNat ++ List.replicate (n - i.toNat) z).set i.toNat (atI T i) = T.take (i + 1).toNat ++ List.replicate (n - (i + 1).toNat) z := by
  have hl : (T.take i.toNat).length = i.toNat := by rw [List.length_take]; omega
  rw [List.set_append, if_neg (by omega), hl, Nat.sub_self, show n - i.toNat = (n - (i + 1).toNat) + 1 by omega, List.replicate_succ, List.set_cons_zero, take_next h0 (by omega), List.append_assoc]
  rfl
theorem take_rows {α : Type} (T : List α) (z : α) (n : Nat) (i : Int) (hT : T.length = n) (h0 : 0 ≤ i) (h1 : i ≤ n) : (T.take i.toNat ++ List.replicate (n - i.toNat) z).length = n := by
  simp only [List.length_append, List.length_take, List.length_replicate]; omega
theorem take_at {α : Type} (T : List α) (z : α) (n : Nat) (i : Int) (hT : T.length = n) (h0 : 0 ≤ i) (h1 : i < n) : (T.take i.toNat ++ List.replicate (n - i.toNat) z)[i.toNat]? = some z := by
  rw [List.getElem?_append_right (by rw [List.length_take]; omega), List.length_take, List.getElem?_replicate, if_pos (by omega)]
theorem all_rows {T : List (List AV)} (n : Nat) (i : Int) (k : Nat) (h : T.all (fun r => r.all (AV.sc1 k)) = true) : ((T.take i.toNat ++ List.replicate (n - i.toNat) ti81.zero).all fun r => r.all (AV.sc1 k)) = true := by
  rw [List.all_append, Bool.and_eq_true]
  constructor
  · simp only [List.all_eq_true] at h ⊢
    exact fun r hr => h r (List.mem_of_mem_take hr)
  · simp only [List.all_eq_true]
    intro r hr
    rw [(List.mem_replicate.1 hr).2]
    exact List.all_eq_true.1 rfl
def rowsK (f : List Node) (p : Int) (k : AV) : List (List AV) := (f.map rowS).set p.toNat (nodeRow (atI f p) k)
theorem rowsK_len (f : List Node) (p : Int) (k : AV) : (rowsK f p k).length = f.length := by unfold rowsK; simp
theorem atI_map {α β : Type} [Inhabited α] [Inhabited β] (g : α → β) (l : List α) (i : Int) (h0 : 0 ≤ i) (h1 : i < l.length) : atI (l.map g) i = g (atI l i) := by
  have e1 := atI_get h0 h1
  have e2 := atI_get (xs := l.map g) h0 (by simpa using h1)
  rw [List.getElem?_map, e1] at e2
  exact (Option.some.inj e2).symm
theorem rowsK_at (f : List Node) (p : Int) (k : AV) (hp : 0 ≤ p) (hp1 : p < f.length) (i : Int) (h0 : 0 ≤ i) (h1 : i < f.length) : atI (rowsK f p k) i = if i = p then nodeRow (atI f p) k else rowS (atI f i) := by
  unfold rowsK
  rw [atI_set _ _ _ _ hp (by simpa using hp1) h0, atI_map _ _ _ h0 h1]
theorem rowsK_mem {f : List Node} {p : Int} {k : AV} {r : List AV} (h : r ∈ rowsK f p k) : r = nodeRow (atI f p) k ∨ ∃ n ∈ f, r = rowS n := by
  unfold rowsK at h
  rcases List.mem_or_eq_of_mem_set h with h | h
  · obtain ⟨n, h1, h2⟩ := List.mem_map.1 h
    exact .inr ⟨n, h1, h2.symm⟩
  · exact .inl h
theorem rowS_all (n : Node) (k : Nat) : (rowS n).all (AV.sc1 k) = true := rfl
theorem rowsK_sc (f : List Node) (p : Int) (k : AV) (m : Nat) (h : k.sc1 m = true) : (rowsK f p k).all (fun r => r.all (AV.sc1 m)) = true := by
  rw [List.all_eq_true]
  intro r hr
  rcases rowsK_mem hr with rfl | ⟨n, _, rfl⟩
  · unfold nodeRow
    simp only [List.all_cons, List.all_nil, h]
    rfl
  · exact rowS_all n m
theorem copyOfK_c (f : List Node) (p : Int) (hf : Fit f) (hp : 0 ≤ p) (hp1 : p < f.length) (hk : (atI f p).kids ≠ []) : GenC Tryz.prog 44 [⟨81, 16, []⟩, ⟨3, 1, []⟩] [fav f] (.agg [.os 0 f.length]) [⟨81, 16, rowsK f p (.os 1 (atI f p).kids.length)⟩, ⟨3, 1, (atI f p).kids.map cI⟩] := by
  have hl := hf.len
  have hm : (List.map Node.iv f).length = f.length := List.length_map _
  obtain ⟨T, hT0⟩ : ∃ T, T = rowsK f p (.os 1 (atI f p).kids.length) := ⟨_, rfl⟩
  rw [← hT0]
  have hT : T.length = f.length := by rw [hT0, rowsK_len]
  have hat : ∀ i : Int, 0 ≤ i → i < f.length → atI T i = if i = p then nodeRow (atI f p) (.os 1 (atI f p).kids.length) else rowS (atI f i) := fun i h0 h1 => by rw [hT0]; exact rowsK_at f p _ hp hp1 i h0 h1
  have hsc : ∀ k, 2 ≤ k → T.all (fun r => r.all (AV.sc1 k)) = true := fun k hk => by
    rw [hT0]; exact rowsK_sc f p _ k (by simp only [AV.sc1, AV.sc0, Nat.blt_eq]; omega)
  clear hT0
  obtain ⟨K, hK⟩ : ∃ K : Int → List Int, ∀ i, K i = if p < i then (atI f p).kids else [] := ⟨fun i => if p < i then (atI f p).kids else [], fun _ => rfl⟩
  have eR : ∀ m : Nat, ((atI f p).kids.map cI).map (·.map (ren1 (rho [1] m))) = (atI f p).kids.map cI := by
    intro m; simp [cI, iav, ren1, ren0]
  have hz : ∀ k, (ti81.zero.all (AV.sc1 k)) = true := fun k => rfl
  refine GenC.mk tabs Tryz.func44 27 [.cell 2 24] rfl rfl rfl rfl rfl ?_; intro w0 X γ κ
  (repeat' (first | ((with_reducible show AL _ _ _ _ _); first | (refine AL.step tabs rfl ?_; try dsimp only [len, List.nil_append, List.cons_append]) | refine AL.ope rfl (OpOK.make_at 0 tabs rfl rfl rfl rfl rfl rfl rfl rfl rfl (by omega) (by omega) (by omega) rfl (by simp only [ti81]; omega)) rfl ?_ | refine AL.nil ?_ | (refine AL.op rfl (OpOK.ari64 rfl rfl rfl rfl rfl (by omega) (by omega)) ?_) | (refine AL.op rfl (OpOK.index_map tabs rfl rfl rfl rfl rfl rfl rfl (fun _ => rfl) (by decide) (by omega) (by omega)) ?_)) | ((with_reducible show DQ _ _ _ _ _ _); first | refine DQ.stepc (LS.val tabs rfl rfl rfl) rfl rfl rfl rfl rfl ?_ | refine DQ.stepc (LS.skip rfl rfl) rfl rfl rfl rfl rfl ?_ | refine DQ.nilM (by kernel_rfl) ?_ | refine DQ.stepc (LS.ari64 rfl rfl rfl rfl rfl rfl (by omega) (by omega)) rfl rfl rfl rfl rfl ?_ | refine DQ.stepc (LS.index_map tabs rfl rfl rfl rfl rfl rfl rfl rfl (fun _ => rfl) (by decide) (by omega) (by omega)) rfl rfl rfl rfl rfl ?_) | refine AW.seq ?_ | refine AW.region ?_ | refine Then.norm ?_ | refine AW.skip ?_ | refine AW.block ?_ | refine InB.norm ?_ | refine AW.condT rfl ?_ | refine AW.condF rfl ?_ | (refine AW.cond rfl (fun hc => ?_) (fun hc => ?_) <;> (try simp only [hsx] at hc) <;> (try first | (exfalso; omega) | contradiction | (exfalso; simp [dec_eq] at hc; done))) | refine AW.ret ?_ | refine AW.exit ?_ | refine Then.ret ?_ | refine Then.exit ?_ | refine InB.ret ?_ | refine InB.here ?_ | refine InB.off rfl ?_ | refine Rnd.ret ?_ | refine Rnd.exit ?_ | refine AW.drawW mixed (by kernel_rfl) ?_))
  refine AW.loop (α := Int) (fun i => ⟨[(2, .ptr 3 1 0 0), (3, .ptr 4 1 0 0), (12, .imm (.sl (f.map Node.iv))), (13, iav (List.map Node.iv f).length), (14, iav i)], [⟨81, 16, T.take i.toNat ++ List.replicate (f.length - i.toNat) ti81.zero⟩, ⟨3, 1, (K i).map cI⟩, ⟨24, 1, [[.imm (.sl (f.map Node.iv))]]⟩, ⟨24, 1, [[.nils]]⟩, ⟨24, 1, [[.os 0 f.length]]⟩]⟩) (fun i => 0 ≤ i ∧ i ≤ f.length) (fun i => (f.length - i).toNat) 0 (Le.cut 5 (by rw [hK, if_neg (by omega), ← hm]; rfl) (by repeat' (first | exact trivial | refine ⟨rfl, ?_⟩)) rfl (by simp only [List.all_cons, List.all_nil, Bool.and_true, Bool.and_eq_true]; exact ⟨all_rows _ _ _ (hsc _ (by omega)), (by simp only [List.all_cons, List.all_nil, List.all_map, Function.comp_def, cI, cB, iav, bav, AV.sc1, AV.sc0, Bool.and_true, Bool.and_self, all_tt]; try rfl), rfl, rfl, rfl⟩) (by simp [cxG])) ⟨by omega, by omega⟩ ?_
  intro i ⟨h0, h2⟩
  by_cases hip : i = p
  · subst hip
    have e1 : K i = [] := by rw [hK, if_neg (by omega)]
    have e2 : K (i + 1) = (atI f i).kids := by rw [hK, if_pos (by omega)]
    have e3 := hat i hp hp1
    rw [if_pos rfl] at e3
    rw [e1]
    (repeat' (first | ((with_reducible show AL _ _ _ _ _); first | (refine AL.step tabs rfl ?_; try dsimp only [len, List.nil_append, List.cons_append]) | refine AL.nil ?_ | (refine AL.op rfl (OpOK.ari64 rfl rfl rfl rfl rfl (by omega) (by omega)) ?_) | (refine AL.op rfl (OpOK.index_map tabs rfl rfl rfl rfl rfl rfl rfl (fun _ => rfl) (by decide) (by omega) (by omega)) ?_)) | ((with_reducible show DQ _ _ _ _ _ _); first | refine DQ.stepc (LS.callG1 1 (r' := .agg (nodeRow (atI f i) (.os 1 (atI f i).kids.length))) rfl rfl rfl rfl rfl (copyNodeK_c (atI f i) (hf.atI i hp hp1) hk) rfl (fun _ => rfl) rfl rfl rfl (by simp only [List.all_cons, List.all_nil, List.all_map, Function.comp_def, cI, cB, iav, bav, AV.sc1, AV.sc0, Bool.and_true, Bool.and_self, all_tt]; try rfl) (bA := ⟨3, 1, (atI f i).kids.map cI⟩) (fun n => by simp only [renB, eR]) (fun _ => rfl)) rfl rfl rfl rfl rfl ?_ | refine DQ.stepc (LS.index_own (b := ⟨81, 16, T.take i.toNat ++ List.replicate (f.length - i.toNat) ti81.zero⟩) tabs rfl rfl rfl rfl rfl rfl rfl rfl rfl (take_rows _ _ _ _ hT h0 h2).symm rfl (by omega) (by omega)) rfl rfl rfl rfl rfl ?_ | refine DQ.stepc (LS.store (i := ti81) (v := .agg (nodeRow (atI f i) (.os 1 (atI f i).kids.length))) (ty := 81) (sz := 16) (rows := T.take i.toNat ++ List.replicate (f.length - i.toNat) ti81.zero) tabs rfl rfl rfl rfl rfl rfl rfl (take_rows _ _ _ _ hT h0 h2).symm rfl rfl (by decide) (take_at _ _ _ _ hT h0 (by omega))) rfl rfl rfl rfl rfl ?_ | refine DQ.stepc (LS.val tabs rfl rfl rfl) rfl rfl rfl rfl rfl ?_ | refine DQ.stepc (LS.skip rfl rfl) rfl rfl rfl rfl rfl ?_ | refine DQ.nilM (by kernel_rfl) ?_ | refine DQ.stepc (LS.ari64 rfl rfl rfl rfl rfl rfl (by omega) (by omega)) rfl rfl rfl rfl rfl ?_ | refine DQ.stepc (LS.index_map tabs rfl rfl rfl rfl rfl rfl rfl rfl (fun _ => rfl) (by decide) (by omega) (by omega)) rfl rfl rfl rfl rfl ?_) | refine AW.seq ?_ | refine AW.region ?_ | refine Then.norm ?_ | refine AW.skip ?_ | refine AW.block ?_ | refine InB.norm ?_ | refine AW.condT rfl ?_ | refine AW.condF rfl ?_ | (refine AW.cond rfl (fun hc => ?_) (fun hc => ?_) <;> (try simp only [hsx] at hc) <;> (try first | (exfalso; omega) | contradiction | (exfalso; simp [dec_eq] at hc; done))) | refine AW.ret ?_ | refine AW.exit ?_ | refine Then.ret ?_ | refine Then.exit ?_ | refine InB.ret ?_ | refine InB.here ?_ | refine InB.off rfl ?_ | refine Rnd.ret ?_ | refine Rnd.exit ?_ | refine AW.drawW mixed (by kernel_rfl) ?_))
    refine Rnd.norm (i + 1) (Le.cut 5 (by rw [← take_set T ti81.zero f.length i hT h0 (by assumption), e2, e3]; rfl) (by repeat' (first | exact trivial | refine ⟨rfl, ?_⟩)) rfl (by simp only [List.all_cons, List.all_nil, Bool.and_true, Bool.and_eq_true]; exact ⟨all_rows _ _ _ (hsc _ (by omega)), (by simp only [List.all_cons, List.all_nil, List.all_map, Function.comp_def, cI, cB, iav, bav, AV.sc1, AV.sc0, Bool.and_true, Bool.and_self, all_tt]; try rfl), rfl, rfl, rfl⟩) (by simp [cxG])) ⟨by omega, by omega⟩ (by omega)
  · have e2 : i < f.length → K (i + 1) = K i := fun hi => by
      rw [hK, hK]
      by_cases h : p < i
      · rw [if_pos (by omega), if_pos h]
      · rw [if_neg (by omega), if_neg h]
    have e3 : i < f.length → atI T i = rowS (atI f i) := fun hi => by rw [hat i h0 hi, if_neg hip]
    (repeat' (first | ((with_reducible show AL _ _ _ _ _); first | (refine AL.step tabs rfl ?_; try dsimp only [len, List.nil_append, List.cons_append]) | refine AL.nil ?_ | (refine AL.op rfl (OpOK.ari64 rfl rfl rfl rfl rfl (by omega) (by omega)) ?_) | (refine AL.op rfl (OpOK.index_map tabs rfl rfl rfl rfl rfl rfl rfl (fun _ => rfl) (by decide) (by omega) (by omega)) ?_)) | ((with_reducible show DQ _ _ _ _ _ _); first | refine DQ.stepc (LS.call rfl rfl rfl rfl rfl (copyNode_c (atI f i) (hf.atI i h0 (by omega))) rfl) rfl rfl rfl rfl rfl ?_ | refine DQ.stepc (LS.index_own (b := ⟨81, 16, T.take i.toNat ++ List.replicate (f.length - i.toNat) ti81.zero⟩) tabs rfl rfl rfl rfl rfl rfl rfl rfl rfl (take_rows _ _ _ _ hT h0 h2).symm rfl (by omega) (by omega)) rfl rfl rfl rfl rfl ?_ | refine DQ.stepc (LS.store (i := ti81) (v := .agg (rowS (atI f i))) (ty := 81) (sz := 16) (rows := T.take i.toNat ++ List.replicate (f.length - i.toNat) ti81.zero) tabs rfl rfl rfl rfl rfl rfl rfl (take_rows _ _ _ _ hT h0 h2).symm rfl rfl (by decide) (take_at _ _ _ _ hT h0 (by omega))) rfl rfl rfl rfl rfl ?_ | refine DQ.stepc (LS.val tabs rfl rfl rfl) rfl rfl rfl rfl rfl ?_ | refine DQ.stepc (LS.skip rfl rfl) rfl rfl rfl rfl rfl ?_ | refine DQ.nilM (by kernel_rfl) ?_ | refine DQ.stepc (LS.ari64 rfl rfl rfl rfl rfl rfl (by omega) (by omega)) rfl rfl rfl rfl rfl ?_ | refine DQ.stepc (LS.index_map tabs rfl rfl rfl rfl rfl rfl rfl rfl (fun _ => rfl) (by decide) (by omega) (by omega)) rfl rfl rfl rfl rfl ?_) | refine AW.seq ?_ | refine AW.region ?_ | refine Then.norm ?_ | refine AW.skip ?_ | refine AW.block ?_ | refine InB.norm ?_ | refine AW.condT rfl ?_ | refine AW.condF rfl ?_ | (refine AW.cond rfl (fun hc => ?_) (fun hc => ?_) <;> (try simp only [hsx] at hc) <;> (try first | (exfalso; omega) | contradiction | (exfalso; simp [dec_eq] at hc; done))) | refine AW.ret ?_ | refine AW.exit ?_ | refine Then.ret ?_ | refine Then.exit ?_ | refine InB.ret ?_ | refine InB.here ?_ | refine InB.off rfl ?_ | refine Rnd.ret ?_ | refine Rnd.exit ?_ | refine AW.drawW mixed (by kernel_rfl) ?_))
    · refine Rnd.norm (i + 1) (Le.cut 5 (by rw [← take_set T ti81.zero f.length i hT h0 (by assumption), e2 (by assumption), e3 (by assumption)]; rfl) (by repeat' (first | exact trivial | refine ⟨rfl, ?_⟩)) rfl (by simp only [List.all_cons, List.all_nil, Bool.and_true, Bool.and_eq_true]; exact ⟨all_rows _ _ _ (hsc _ (by omega)), (by simp only [List.all_cons, List.all_nil, List.all_map, Function.comp_def, cI, cB, iav, bav, AV.sc1, AV.sc0, Bool.and_true, Bool.and_self, all_tt]; try rfl), rfl, rfl, rfl⟩) (by simp [cxG])) ⟨by omega, by omega⟩ (by omega)
    · have e : T.take i.toNat ++ List.replicate (f.length - i.toNat) ti81.zero = T := by
        rw [take_end (by omega), show f.length - i.toNat = 0 by omega]; simp
      have e4 : K i = (atI f p).kids := by rw [hK, if_pos (by omega)]
      refine RG.ret 2 rfl rfl (by rw [e, e4]; rfl) rfl ?_ (by simp [cxG])
      simp only [List.all_cons, List.all_nil, Bool.and_true, Bool.and_eq_true]
      exact ⟨hsc _ (by omega), (by simp only [List.all_cons, List.all_nil, List.all_map, Function.comp_def, cI, cB, iav, bav, AV.sc1, AV.sc0, Bool.and_true, Bool.and_self, all_tt]; try rfl)⟩
end Go.Proofs.YtjjdabihnmilgaaGreat.A
namespace Go.Proofs.YtjjdabihnmilgaaGreat.A
set_option linter.unusedVariables false
set_option linter.unusedSimpArgs false
set_option maxRecDepth 100000
set_option maxHeartbeats 4000000
theorem ends2_c (f : List Node) (R : List (List AV)) (K : List Int) (c : Change) (hR : R.length = f.length) (hl : f.length ≤ 1000000000) (hsc : R.all (fun r => r.all (AV.sc1 3)) = true) (h1 : 1 ≤ c.node) (h2 : c.node ≤ f.length) (h3 : 1 ≤ c.parent) (h4 : c.parent ≤ f.length) : GenC Tryz.prog 198 [⟨24, 1, [[.os 1 f.length]]⟩, ⟨81, 16, R⟩, ⟨3, 1, K.map cI⟩] [.ptr 0 1 0 0, c.av] (.tup [.ptr 1 f.length (c.node - 1).toNat 0, .ptr 1 f.length (c.parent - 1).toNat 0]) [⟨24, 1, [[.os 1 f.length]]⟩, ⟨81, 16, R⟩, ⟨3, 1, K.map cI⟩] := by
  refine GenC.mk tabs Tryz.func198 50 [.tmp 4, .tmp 5] rfl rfl rfl rfl rfl ?_; intro w0 X γ κ
  (repeat' (first | ((with_reducible show AL _ _ _ _ _); first | (refine AL.step tabs rfl ?_; try dsimp only [len, List.nil_append, List.cons_append]) | refine AL.nil ?_ | (refine AL.gsplitE rfl rfl rfl (fun hc => ?_) (fun hc => ?_) <;> (fail_if_success (exact absurd hc (by decide))) <;> (try simp only [hsx] at hc) <;> (try first | (exfalso; omega) | contradiction | (exfalso; simp [dec_eq] at hc; done))) | (refine AL.op rfl (OpOK.ari64 rfl rfl rfl rfl rfl (by omega) (by omega)) ?_) | (refine AL.op rfl (OpOK.index_map tabs rfl rfl rfl rfl rfl rfl rfl (fun _ => rfl) (by decide) (by omega) (by omega)) ?_)) | ((with_reducible show DQ _ _ _ _ _ _); first | refine DQ.stepc (LS.len_os (b := ⟨81, 16, R⟩) tabs rfl rfl rfl rfl rfl rfl rfl hR.symm) rfl rfl rfl rfl rfl ?_ | refine DQ.stepc (LS.index_own (b := ⟨81, 16, R⟩) tabs rfl rfl rfl rfl rfl rfl rfl rfl rfl hR.symm rfl (by omega) (by omega)) rfl rfl rfl rfl rfl ?_ | refine DQ.stepc (LS.val tabs rfl rfl rfl) rfl rfl rfl rfl rfl ?_ | refine DQ.stepc (LS.skip rfl rfl) rfl rfl rfl rfl rfl ?_ | refine DQ.nilM (by kernel_rfl) ?_ | refine DQ.stepc (LS.ari64 rfl rfl rfl rfl rfl rfl (by omega) (by omega)) rfl rfl rfl rfl rfl ?_ | refine DQ.stepc (LS.index_map tabs rfl rfl rfl rfl rfl rfl rfl rfl (fun _ => rfl) (by decide) (by omega) (by omega)) rfl rfl rfl rfl rfl ?_ | (refine DQ.gsplitE rfl rfl rfl (fun hc => ?_) (fun hc => ?_) <;> (fail_if_success (exact absurd hc (by decide))) <;> (try simp only [hsx] at hc) <;> (try first | (exfalso; omega) | contradiction | (exfalso; simp [dec_eq] at hc; done)))) | refine AW.seq ?_ | refine AW.region ?_ | refine Then.norm ?_ | refine AW.skip ?_ | refine AW.condT rfl ?_ | refine AW.condF rfl ?_ | (refine AW.cond rfl (fun hc => ?_) (fun hc => ?_) <;> (try simp only [hsx] at hc) <;> (try first | (exfalso; omega) | contradiction | (exfalso; simp [dec_eq] at hc; done))) | refine AW.ret ?_ | refine Then.ret ?_ | refine AW.drawW mixed (by kernel_rfl) ?_))
  refine RG.ret 3 rfl rfl rfl rfl ?_ (by simp [cxG])
  simp only [List.all_cons, List.all_nil, Bool.and_true, Bool.and_eq_true]
  exact ⟨rfl, hsc, (by simp only [List.all_cons, List.all_nil, List.all_map, Function.comp_def, cI, cB, iav, bav, AV.sc1, AV.sc0, Bool.and_true, Bool.and_self, all_tt]; try rfl)⟩
theorem u205 : Tryz.prog.underlying 205 = some (.pointer (Tryz.prog.pointee 205)) := by kernel_rfl

theorem ren0_id {k : Nat} {ρ : Nat → Nat} (h : ∀ i, i < k → ρ i = i) {v : AV} (hv : v.sc0 k = true) : ren0 ρ v = v := by
  cases v <;> first
    | rfl
    | (simp only [AV.sc0, Nat.blt_eq] at hv; simp only [ren0, h _ hv])
theorem map_id' {α : Type} {g : α → α} : ∀ {l : List α}, (∀ x ∈ l, g x = x) → l.map g = l
  | [], _ => rfl
  | x :: l, h => by rw [List.map_cons, h x (by simp), map_id' fun y hy => h y (by simp [hy])]
theorem ren1_id {k : Nat} {ρ : Nat → Nat} (h : ∀ i, i < k → ρ i = i) {v : AV} (hv : v.sc1 k = true) : ren1 ρ v = v := by
  cases v with
  | fn f l => simp only [ren1]; rw [map_id' fun x hx => ren0_id h (List.all_eq_true.1 hv x hx)]
  | agg l => simp only [ren1]; rw [map_id' fun x hx => ren0_id h (List.all_eq_true.1 hv x hx)]
  | tup l => simp only [ren1]; rw [map_id' fun x hx => ren0_id h (List.all_eq_true.1 hv x hx)]
  | ptr a b c d => exact ren0_id (v := .ptr a b c d) h hv
  | os a b => exact ren0_id (v := .os a b) h hv
  | sub a b c d => exact ren0_id (v := .sub a b c d) h hv
  | _ => rfl
theorem renB_id {k : Nat} {ρ : Nat → Nat} (h : ∀ i, i < k → ρ i = i) {ty sz : Nat} {R : List (List AV)} (hR : R.all (fun r => r.all (AV.sc1 k)) = true) : renB ρ ⟨ty, sz, R⟩ = ⟨ty, sz, R⟩ := by
  unfold renB
  congr 1
  exact map_id' fun r hr => map_id' fun v hv => ren1_id h (List.all_eq_true.1 (List.all_eq_true.1 hR r hr) v hv)
theorem rho3 (n : Nat) : ∀ i, i < 3 → rho [0, 1, 2] n i = i := by
  intro i hi
  match i, hi with
  | 0, _ => rfl
  | 1, _ => rfl
  | 2, _ => rfl
def updAt (f : List Node) (i : Int) (n : Node) : List Node := f.set i.toNat n
theorem ext_atI {α : Type} [Inhabited α] {a b : List α} (h : a.length = b.length) (h2 : ∀ i : Int, 0 ≤ i → i < a.length → atI a i = atI b i) : a = b := by
  apply List.ext_getElem?
  intro j
  rcases Nat.lt_or_ge j a.length with hj | hj
  · have e1 := atI_get (xs := a) (j := (j : Int)) (by omega) (by omega)
    have e2 := atI_get (xs := b) (j := (j : Int)) (by omega) (by omega)
    simp only [Int.toNat_natCast] at e1 e2
    rw [e1, e2, h2 j (by omega) (by omega)]
  · rw [List.getElem?_eq_none hj, List.getElem?_eq_none (by omega)]
theorem get_atI {α : Type} [Inhabited α] {xs : List α} {j : Int} (h0 : 0 ≤ j) (h1 : j < xs.length) {x : α} (h : atI xs j = x) : xs[j.toNat]? = some x := by rw [atI_get h0 h1, h]

theorem renB_cI (ρ : Nat → Nat) (ty sz : Nat) (l : List Int) : renB ρ ⟨ty, sz, l.map cI⟩ = ⟨ty, sz, l.map cI⟩ := by
  unfold renB
  congr 1
  simp [cI, iav, ren1, ren0]

end Go.Proofs.YtjjdabihnmilgaaGreat.A
namespace Go.Proofs.YtjjdabihnmilgaaGreat.A
set_option linter.unusedVariables false
set_option linter.unusedSimpArgs false
set_option maxRecDepth 100000
set_option maxHeartbeats 4000000
end Go.Proofs.YtjjdabihnmilgaaGreat.A
namespace Go.Proofs.YtjjdabihnmilgaaGreat.A
set_option linter.unusedVariables false
set_option linter.unusedSimpArgs false
set_option maxRecDepth 100000
set_option maxHeartbeats 4000000
theorem OpOK.assignNo {C : Cx} {s : St} {o : Oper} {d : Nat} (hd : o.dst = some d) {x : Operand} (ho : o.op = .assign x) (hg : get s.env d = none) : OpOK C s o s := by
  intro γ κ a W hC K Q hK
  have hrun : (execOp a.eval o).run C.P W = .ok (.value (a.eval x)) W := by unfold execOp; rw [ho]; rfl
  unfold Oper.wp
  rw [hrun]
  refine hK γ κ (a.put o.dst (a.eval x)) W ?_
  rw [hd]
  refine ⟨by simp [Act.put, hC.size], hC.defers, ?_, hC.blk, hC.inj, hC.own, hC.xlt, hC.old, hC.hos, hC.htape, hC.hout, hC.hsize, hC.lent⟩
  intro t v h
  obtain ⟨y, h1, h2⟩ := hC.env t v h
  refine ⟨y, ?_, h2⟩
  simp only [Act.put]
  rw [Array.getElem?_setIfInBounds_ne (fun e => by subst e; rw [hg] at h; cases h)]
  exact h1
def k8 (k : Int) : List IV := [.int .u8 k]
theorem Fz.any {C : Cx} {s : St} {v : AV} (hc : v.cell = true) : Fz C s v (.imm .any) := fun γ κ a W x hC hr => .imm _ _ (.any _ (hr.one hc) (hr.single hc) (hr.notMap hc))
theorem Fz.mp {C : Cx} {s : St} {g : Nat} {ks vs : List (List IV)} : Fz C s (.mp g ks vs) (.mpi ks vs) := fun γ κ a W x hC hr => by
  cases hr with
  | mp _ _ _ h => exact .mpi g _ _ (h.keep fun b hb _ => ⟨rfl, fun hx => hb (.inl hx)⟩)
theorem turned_c (k : Int) : PureC Tryz.prog 147 [kav k] (.imm .any) := by
  refine PureC.mk tabs Tryz.func147 4 [.tmp 2] rfl rfl rfl rfl rfl ?_; intro w0 X
  (repeat' (first | ((with_reducible show AL _ _ _ _ _); first | (refine AL.step tabs rfl ?_; try dsimp only [len, List.nil_append, List.cons_append]) | refine AL.nil ?_) | refine AW.seq ?_ | refine AW.region ?_ | refine Then.norm ?_ | refine AW.skip ?_ | refine AW.ret ?_ | refine Then.ret ?_))
  exact RQ.ret rfl (Fz.any rfl)
def stepKeys : List Int := [1, 2, 3, 4, 5, 6, 7, 8, 9, 10]
def stepVals : List (List IV) := [[.fn 143, .fn 144, .bool true, .nilf], [.fn 145, .fn 146, .bool false, .any], [.fn 145, .fn 148, .bool false, .any], [.fn 149, .fn 150, .bool false, .fn 151], [.fn 152, .fn 153, .bool false, .fn 154], [.fn 155, .fn 156, .bool false, .fn 157], [.fn 158, .fn 159, .bool true, .nilf], [.fn 160, .fn 161, .bool false, .fn 142], [.fn 160, .fn 161, .bool false, .fn 142], [.fn 162, .fn 163, .bool false, .fn 142]]
theorem steps_c : PureC Tryz.prog 91 [] (.mpi (stepKeys.map k8) stepVals) := by
  refine PureC.mk tabs Tryz.func91 19 [.tmp 0] rfl rfl rfl rfl rfl ?_; intro w0 X
  (repeat' (first | ((with_reducible show AL _ _ _ _ _); first | (refine AL.step tabs rfl ?_; try dsimp only [len, List.nil_append, List.cons_append]) | refine AL.ope rfl (OpOK.put0 (kf := k8) (xs := ([] : List Int)) key71 Tryz.underlying142 rfl (.inr rfl) hg rfl rfl (q := 1) rfl (v := [.fn 143, .fn 144, .bool true, .nilf]) rfl (fun M z hz => pkA_inv hz) (by decide) (by repeat' (first | exact trivial | refine ⟨rfl, ?_⟩)) rfl) rfl ?_ | refine AL.ope rfl (OpOK.put0 (kf := k8) (xs := ([1] : List Int)) key71 Tryz.underlying142 rfl (.inr rfl) hg rfl rfl (q := 2) rfl (v := [.fn 145, .fn 146, .bool false, .any]) rfl (fun M z hz => pkA_inv hz) (by decide) (by repeat' (first | exact trivial | refine ⟨rfl, ?_⟩)) rfl) rfl ?_ | refine AL.ope rfl (OpOK.put0 (kf := k8) (xs := ([1, 2] : List Int)) key71 Tryz.underlying142 rfl (.inr rfl) hg rfl rfl (q := 3) rfl (v := [.fn 145, .fn 148, .bool false, .any]) rfl (fun M z hz => pkA_inv hz) (by decide) (by repeat' (first | exact trivial | refine ⟨rfl, ?_⟩)) rfl) rfl ?_ | refine AL.ope rfl (OpOK.put0 (kf := k8) (xs := ([1, 2, 3] : List Int)) key71 Tryz.underlying142 rfl (.inr rfl) hg rfl rfl (q := 4) rfl (v := [.fn 149, .fn 150, .bool false, .fn 151]) rfl (fun M z hz => pkA_inv hz) (by decide) (by repeat' (first | exact trivial | refine ⟨rfl, ?_⟩)) rfl) rfl ?_ | refine AL.ope rfl (OpOK.put0 (kf := k8) (xs := ([1, 2, 3, 4] : List Int)) key71 Tryz.underlying142 rfl (.inr rfl) hg rfl rfl (q := 5) rfl (v := [.fn 152, .fn 153, .bool false, .fn 154]) rfl (fun M z hz => pkA_inv hz) (by decide) (by repeat' (first | exact trivial | refine ⟨rfl, ?_⟩)) rfl) rfl ?_ | refine AL.ope rfl (OpOK.put0 (kf := k8) (xs := ([1, 2, 3, 4, 5] : List Int)) key71 Tryz.underlying142 rfl (.inr rfl) hg rfl rfl (q := 6) rfl (v := [.fn 155, .fn 156, .bool false, .fn 157]) rfl (fun M z hz => pkA_inv hz) (by decide) (by repeat' (first | exact trivial | refine ⟨rfl, ?_⟩)) rfl) rfl ?_ | refine AL.ope rfl (OpOK.put0 (kf := k8) (xs := ([1, 2, 3, 4, 5, 6] : List Int)) key71 Tryz.underlying142 rfl (.inr rfl) hg rfl rfl (q := 7) rfl (v := [.fn 158, .fn 159, .bool true, .nilf]) rfl (fun M z hz => pkA_inv hz) (by decide) (by repeat' (first | exact trivial | refine ⟨rfl, ?_⟩)) rfl) rfl ?_ | refine AL.ope rfl (OpOK.put0 (kf := k8) (xs := ([1, 2, 3, 4, 5, 6, 7] : List Int)) key71 Tryz.underlying142 rfl (.inr rfl) hg rfl rfl (q := 8) rfl (v := [.fn 160, .fn 161, .bool false, .fn 142]) rfl (fun M z hz => pkA_inv hz) (by decide) (by repeat' (first | exact trivial | refine ⟨rfl, ?_⟩)) rfl) rfl ?_ | refine AL.ope rfl (OpOK.put0 (kf := k8) (xs := ([1, 2, 3, 4, 5, 6, 7, 8] : List Int)) key71 Tryz.underlying142 rfl (.inr rfl) hg rfl rfl (q := 9) rfl (v := [.fn 160, .fn 161, .bool false, .fn 142]) rfl (fun M z hz => pkA_inv hz) (by decide) (by repeat' (first | exact trivial | refine ⟨rfl, ?_⟩)) rfl) rfl ?_ | refine AL.ope rfl (OpOK.put0 (kf := k8) (xs := ([1, 2, 3, 4, 5, 6, 7, 8, 9] : List Int)) key71 Tryz.underlying142 rfl (.inr rfl) hg rfl rfl (q := 10) rfl (v := [.fn 162, .fn 163, .bool false, .fn 142]) rfl (fun M z hz => pkA_inv hz) (by decide) (by repeat' (first | exact trivial | refine ⟨rfl, ?_⟩)) rfl) rfl ?_ | refine AL.op rfl (OpOK.call rfl rfl rfl rfl (turned_c 3) rfl) ?_ | refine AL.op rfl (OpOK.call rfl rfl rfl rfl (turned_c 2) rfl) ?_ | refine AL.op rfl (OpOK.assignNo rfl rfl rfl) ?_ | refine AL.makeMap rfl rfl rfl (fun g hg => ?_) | refine AL.nil ?_) | refine AW.seq ?_ | refine AW.region ?_ | refine Then.norm ?_ | refine AW.skip ?_ | refine AW.ret ?_ | refine Then.ret ?_))
  exact RQ.ret rfl Fz.mp
theorem zero140 (w : World) : (zeroValue 140).run Tryz.prog w = .ok (.agg #[.nilFunc, .nilFunc, .bool false, .nilFunc]) w := rfl
end Go.Proofs.YtjjdabihnmilgaaGreat.A
