/- Contracts: nodes and changes held against one another; copies. -/
import Derived.Test.YtmhejcnaanocpaaGreatCDOneGrpAL
import Derived.Test.YtmhejcnaanocpaaGreatCDOneGrpAJ
namespace Go.Proofs.YtmhejcnaanocpaaGreat.A
set_option linter.unusedVariables false
set_option linter.unusedSimpArgs false
set_option maxRecDepth 100000
set_option maxHeartbeats 4000000
structure Change where
  kind : Int
  node : Int
  parent : Int
  index : Int
  other : Int
  doc : Int
  offset : Int
  count : Int
  data : List Int
  name : Name
  old : ByteArray
  value : ByteArray
  had : Bool
  has : Bool
  made : Node
  added : List Int
  removed : List Int
  prev : Int
  next : Int
def Change.iv (c : Change) : List IV := [.int .u8 c.kind, .int .i64 c.node, .int .i64 c.parent, .int .i64 c.index, .int .i64 c.other, .int .i64 c.doc, .int .i64 c.offset, .int .i64 c.count, .sl (c.data.map u16), .str c.name.sp, .str c.name.pf, .str c.name.lc, .str c.old, .str c.value, .bool c.had, .bool c.has, .int .u8 c.made.kind, .str c.made.name.sp, .str c.made.name.pf, .str c.made.name.lc, .str c.made.pub, .str c.made.sys, .sl (c.made.data.map u16), .sl (c.made.attrs.map Attr.iv), .int .i64 c.made.parent, .sl (c.made.kids.map i64), .int .i64 c.made.doc, .int .i64 c.made.host, .int .i64 c.made.shadow, .int .u8 c.made.mode, .bool c.made.manual, .bool c.made.html, .sl (c.added.map i64), .sl (c.removed.map i64), .int .i64 c.prev, .int .i64 c.next]
def Change.av (c : Change) : AV := .agg (c.iv.map .imm)
def e0 : Name := ⟨es, es, es⟩
def c0 : Change := ⟨0, 0, 0, 0, 0, 0, 0, 0, [], e0, es, es, false, false, n0, [], [], 0, 0⟩
instance : Inhabited Change := ⟨c0⟩
theorem name_eq (a b : Name) : a = b ↔ a.sp = b.sp ∧ a.pf = b.pf ∧ a.lc = b.lc := by
  cases a; cases b; simp
theorem attr_eq (a b : Attr) : a = b ↔ a.name = b.name ∧ a.value = b.value := by
  cases a; cases b; simp
theorem node_eq (a b : Node) : a = b ↔ a.data = b.data ∧ a.attrs = b.attrs ∧ a.kids = b.kids ∧ a.kind = b.kind ∧ a.name = b.name ∧ a.pub = b.pub ∧ a.sys = b.sys ∧ a.parent = b.parent ∧ a.doc = b.doc ∧ a.host = b.host ∧ a.shadow = b.shadow ∧ a.mode = b.mode ∧ a.manual = b.manual ∧ a.html = b.html := by
  cases a; cases b; simp; grind
theorem change_eq (a b : Change) : a = b ↔ a.data = b.data ∧ a.made = b.made ∧ a.added = b.added ∧ a.removed = b.removed ∧ (a.kind = b.kind ∧ a.node = b.node ∧ a.parent = b.parent ∧ a.index = b.index ∧ a.other = b.other ∧ a.doc = b.doc ∧ a.offset = b.offset ∧ a.count = b.count ∧ a.prev = b.prev) ∧ a.next = b.next ∧ a.name = b.name ∧ a.old = b.old ∧ a.value = b.value ∧ a.had = b.had ∧ a.has = b.has := by
  cases a; cases b; simp; grind
theorem eqt141 : EqT Tryz.prog 141 (eqvI 9) := eqtI (by kernel_rfl) Tryz.underlying141 tk3 rfl rfl Tryz.underlying3
theorem list_ne {α : Type} [Inhabited α] {a b : List α} {i : Int} (h : atI a i ≠ atI b i) : ¬ a = b := fun e => h (by rw [e])
theorem equ16_c (a b : List Int) (hl : a.length ≤ 1000000000) : PureC Tryz.prog 131 [.imm (.sl (a.map u16)), .imm (.sl (b.map u16))] (bav (dec (a = b))) := by
  refine PureC.mk tabs Tryz.func131 26 [.tmp 4] rfl rfl rfl rfl rfl ?_; intro w0 X
  (repeat' (first | ((with_reducible show AL _ _ _ _ _); first | (refine AL.step tabs rfl ?_; try dsimp only [len, List.nil_append, List.cons_append]) | refine AL.nil ?_ | (refine AL.op rfl (OpOK.ari64 rfl rfl rfl rfl rfl (by omega) (by omega)) ?_) | (refine AL.op rfl (OpOK.index_map tabs rfl rfl rfl rfl rfl rfl rfl (fun _ => rfl) (by decide) (by omega) (by omega)) ?_)) | ((with_reducible show DQ _ _ _ _ _ _); first | refine DQ.stepc (LS.val tabs rfl rfl rfl) rfl rfl rfl rfl rfl ?_ | refine DQ.stepc (LS.skip rfl rfl) rfl rfl rfl rfl rfl ?_ | refine DQ.nilM (by kernel_rfl) ?_ | refine DQ.stepc (LS.ari64 rfl rfl rfl rfl rfl rfl (by omega) (by omega)) rfl rfl rfl rfl rfl ?_ | refine DQ.stepc (LS.index_map tabs rfl rfl rfl rfl rfl rfl rfl rfl (fun _ => rfl) (by decide) (by omega) (by omega)) rfl rfl rfl rfl rfl ?_) | fail | refine AW.seq ?_ | refine AW.region ?_ | refine Then.norm ?_ | refine AW.skip ?_ | refine AW.block ?_ | refine InB.norm ?_ | refine AW.condT rfl ?_ | refine AW.condF rfl ?_ | (refine AW.cond rfl (fun hc => ?_) (fun hc => ?_) <;> (try simp only [hsx] at hc) <;> (try first | (exfalso; omega) | contradiction | (exfalso; simp [dec_eq] at hc; done))) | refine AW.ret ?_ | refine AW.exit ?_ | refine Then.ret ?_ | refine Then.exit ?_ | refine InB.ret ?_ | refine InB.here ?_ | refine InB.off rfl ?_ | refine Rnd.ret ?_ | refine Rnd.exit ?_ | refine AW.drawW mixed (by kernel_rfl) ?_))
  · rw [dec_neg (p := a = b) (fun e => by subst e; exact hc rfl)]
    exact RQ.fin rfl rfl rfl
  have hlen : a.length = b.length := by omega
  clear hc
  refine AW.loop (α := Int) (fun i => ⟨[(0, .imm (.sl (a.map u16))), (1, .imm (.sl (b.map u16))), (12, iav (a.map u16).length), (13, iav i)], []⟩) (fun i => 0 ≤ i ∧ i ≤ a.length ∧ a.take i.toNat = b.take i.toNat) (fun i => (a.length - i).toNat) 0 (Le.cut 0 rfl (by repeat' (first | exact trivial | refine ⟨rfl, ?_⟩)) rfl rfl (Nat.zero_le _)) ⟨by omega, by omega, rfl⟩ ?_
  intro i ⟨h0, h1, h2⟩
  (repeat' (first | ((with_reducible show AL _ _ _ _ _); first | (refine AL.step tabs rfl ?_; try dsimp only [len, List.nil_append, List.cons_append]) | refine AL.nil ?_ | (refine AL.op rfl (OpOK.ari64 rfl rfl rfl rfl rfl (by omega) (by omega)) ?_) | (refine AL.op rfl (OpOK.index_map tabs rfl rfl rfl rfl rfl rfl rfl (fun _ => rfl) (by decide) (by omega) (by omega)) ?_)) | ((with_reducible show DQ _ _ _ _ _ _); first | refine DQ.stepc (LS.val tabs rfl rfl rfl) rfl rfl rfl rfl rfl ?_ | refine DQ.stepc (LS.skip rfl rfl) rfl rfl rfl rfl rfl ?_ | refine DQ.nilM (by kernel_rfl) ?_ | refine DQ.stepc (LS.ari64 rfl rfl rfl rfl rfl rfl (by omega) (by omega)) rfl rfl rfl rfl rfl ?_ | refine DQ.stepc (LS.index_map tabs rfl rfl rfl rfl rfl rfl rfl rfl (fun _ => rfl) (by decide) (by omega) (by omega)) rfl rfl rfl rfl rfl ?_) | refine AW.seq ?_ | refine AW.region ?_ | refine Then.norm ?_ | refine AW.skip ?_ | refine AW.block ?_ | refine InB.norm ?_ | refine AW.condT rfl ?_ | refine AW.condF rfl ?_ | (refine AW.cond rfl (fun hc => ?_) (fun hc => ?_) <;> (try simp only [hsx] at hc) <;> (try first | (exfalso; omega) | contradiction | (exfalso; simp [dec_eq] at hc; done))) | refine AW.ret ?_ | refine AW.exit ?_ | refine Then.ret ?_ | refine Then.exit ?_ | refine InB.ret ?_ | refine InB.here ?_ | refine InB.off rfl ?_ | refine Rnd.ret ?_ | refine Rnd.exit ?_ | refine AW.drawW mixed (by kernel_rfl) ?_))
  · rw [dec_neg (p := a = b) (list_ne hc)]
    exact RQ.fin rfl rfl rfl
  · refine Rnd.norm (i + 1) (Le.cut 0 rfl (by repeat' (first | exact trivial | refine ⟨rfl, ?_⟩)) rfl rfl (Nat.zero_le _)) ⟨by omega, by omega, ?_⟩ (by omega)
    rw [take_next h0 (by assumption), take_next h0 (by omega), h2, hc]
  · rw [take_end hc, take_end (by omega)] at h2
    rw [dec_pos (p := a = b) h2]; exact RQ.fin rfl rfl rfl
theorem eqint_c (a b : List Int) (hl : a.length ≤ 1000000000) : PureC Tryz.prog 133 [.imm (.sl (a.map i64)), .imm (.sl (b.map i64))] (bav (dec (a = b))) := by
  refine PureC.mk tabs Tryz.func133 26 [.tmp 4] rfl rfl rfl rfl rfl ?_; intro w0 X
  (repeat' (first | ((with_reducible show AL _ _ _ _ _); first | (refine AL.step tabs rfl ?_; try dsimp only [len, List.nil_append, List.cons_append]) | refine AL.nil ?_ | (refine AL.op rfl (OpOK.ari64 rfl rfl rfl rfl rfl (by omega) (by omega)) ?_) | (refine AL.op rfl (OpOK.index_map tabs rfl rfl rfl rfl rfl rfl rfl (fun _ => rfl) (by decide) (by omega) (by omega)) ?_)) | ((with_reducible show DQ _ _ _ _ _ _); first | refine DQ.stepc (LS.val tabs rfl rfl rfl) rfl rfl rfl rfl rfl ?_ | refine DQ.stepc (LS.skip rfl rfl) rfl rfl rfl rfl rfl ?_ | refine DQ.nilM (by kernel_rfl) ?_ | refine DQ.stepc (LS.ari64 rfl rfl rfl rfl rfl rfl (by omega) (by omega)) rfl rfl rfl rfl rfl ?_ | refine DQ.stepc (LS.index_map tabs rfl rfl rfl rfl rfl rfl rfl rfl (fun _ => rfl) (by decide) (by omega) (by omega)) rfl rfl rfl rfl rfl ?_) | fail | refine AW.seq ?_ | refine AW.region ?_ | refine Then.norm ?_ | refine AW.skip ?_ | refine AW.block ?_ | refine InB.norm ?_ | refine AW.condT rfl ?_ | refine AW.condF rfl ?_ | (refine AW.cond rfl (fun hc => ?_) (fun hc => ?_) <;> (try simp only [hsx] at hc) <;> (try first | (exfalso; omega) | contradiction | (exfalso; simp [dec_eq] at hc; done))) | refine AW.ret ?_ | refine AW.exit ?_ | refine Then.ret ?_ | refine Then.exit ?_ | refine InB.ret ?_ | refine InB.here ?_ | refine InB.off rfl ?_ | refine Rnd.ret ?_ | refine Rnd.exit ?_ | refine AW.drawW mixed (by kernel_rfl) ?_))
  · rw [dec_neg (p := a = b) (fun e => by subst e; exact hc rfl)]
    exact RQ.fin rfl rfl rfl
  have hlen : a.length = b.length := by omega
  clear hc
  refine AW.loop (α := Int) (fun i => ⟨[(0, .imm (.sl (a.map i64))), (1, .imm (.sl (b.map i64))), (12, iav (a.map i64).length), (13, iav i)], []⟩) (fun i => 0 ≤ i ∧ i ≤ a.length ∧ a.take i.toNat = b.take i.toNat) (fun i => (a.length - i).toNat) 0 (Le.cut 0 rfl (by repeat' (first | exact trivial | refine ⟨rfl, ?_⟩)) rfl rfl (Nat.zero_le _)) ⟨by omega, by omega, rfl⟩ ?_
  intro i ⟨h0, h1, h2⟩
  (repeat' (first | ((with_reducible show AL _ _ _ _ _); first | (refine AL.step tabs rfl ?_; try dsimp only [len, List.nil_append, List.cons_append]) | refine AL.nil ?_ | (refine AL.op rfl (OpOK.ari64 rfl rfl rfl rfl rfl (by omega) (by omega)) ?_) | (refine AL.op rfl (OpOK.index_map tabs rfl rfl rfl rfl rfl rfl rfl (fun _ => rfl) (by decide) (by omega) (by omega)) ?_)) | ((with_reducible show DQ _ _ _ _ _ _); first | refine DQ.stepc (LS.val tabs rfl rfl rfl) rfl rfl rfl rfl rfl ?_ | refine DQ.stepc (LS.skip rfl rfl) rfl rfl rfl rfl rfl ?_ | refine DQ.nilM (by kernel_rfl) ?_ | refine DQ.stepc (LS.ari64 rfl rfl rfl rfl rfl rfl (by omega) (by omega)) rfl rfl rfl rfl rfl ?_ | refine DQ.stepc (LS.index_map tabs rfl rfl rfl rfl rfl rfl rfl rfl (fun _ => rfl) (by decide) (by omega) (by omega)) rfl rfl rfl rfl rfl ?_) | refine AW.seq ?_ | refine AW.region ?_ | refine Then.norm ?_ | refine AW.skip ?_ | refine AW.block ?_ | refine InB.norm ?_ | refine AW.condT rfl ?_ | refine AW.condF rfl ?_ | (refine AW.cond rfl (fun hc => ?_) (fun hc => ?_) <;> (try simp only [hsx] at hc) <;> (try first | (exfalso; omega) | contradiction | (exfalso; simp [dec_eq] at hc; done))) | refine AW.ret ?_ | refine AW.exit ?_ | refine Then.ret ?_ | refine Then.exit ?_ | refine InB.ret ?_ | refine InB.here ?_ | refine InB.off rfl ?_ | refine Rnd.ret ?_ | refine Rnd.exit ?_ | refine AW.drawW mixed (by kernel_rfl) ?_))
  · rw [dec_neg (p := a = b) (list_ne hc)]
    exact RQ.fin rfl rfl rfl
  · refine Rnd.norm (i + 1) (Le.cut 0 rfl (by repeat' (first | exact trivial | refine ⟨rfl, ?_⟩)) rfl rfl (Nat.zero_le _)) ⟨by omega, by omega, ?_⟩ (by omega)
    rw [take_next h0 (by assumption), take_next h0 (by omega), h2, hc]
  · rw [take_end hc, take_end (by omega)] at h2
    rw [dec_pos (p := a = b) h2]; exact RQ.fin rfl rfl rfl
theorem eqattr_c (a b : List Attr) (hl : a.length ≤ 1000000000) : PureC Tryz.prog 159 [.imm (.sl (a.map Attr.iv)), .imm (.sl (b.map Attr.iv))] (bav (dec (a = b))) := by
  refine PureC.mk tabs Tryz.func159 26 [.tmp 4] rfl rfl rfl rfl rfl ?_; intro w0 X
  (repeat' (first | ((with_reducible show AL _ _ _ _ _); first | (refine AL.step tabs rfl ?_; try dsimp only [len, List.nil_append, List.cons_append]) | refine AL.nil ?_ | (refine AL.op rfl (OpOK.ari64 rfl rfl rfl rfl rfl (by omega) (by omega)) ?_) | (refine AL.op rfl (OpOK.index_map tabs rfl rfl rfl rfl rfl rfl rfl (fun _ => rfl) (by decide) (by omega) (by omega)) ?_) | (refine AL.op rfl (OpOK.eqs rfl rfl rfl rfl eqt104 rfl rfl) ?_)) | ((with_reducible show DQ _ _ _ _ _ _); first | refine DQ.stepc (LS.val tabs rfl rfl rfl) rfl rfl rfl rfl rfl ?_ | refine DQ.stepc (LS.skip rfl rfl) rfl rfl rfl rfl rfl ?_ | refine DQ.nilM (by kernel_rfl) ?_ | refine DQ.stepc (LS.ari64 rfl rfl rfl rfl rfl rfl (by omega) (by omega)) rfl rfl rfl rfl rfl ?_ | refine DQ.stepc (LS.index_map tabs rfl rfl rfl rfl rfl rfl rfl rfl (fun _ => rfl) (by decide) (by omega) (by omega)) rfl rfl rfl rfl rfl ?_ | refine DQ.stepc (LS.eqs rfl rfl rfl rfl rfl eqt104 rfl rfl) rfl rfl rfl rfl rfl ?_) | fail | refine AW.seq ?_ | refine AW.region ?_ | refine Then.norm ?_ | refine AW.skip ?_ | refine AW.block ?_ | refine InB.norm ?_ | refine AW.condT rfl ?_ | refine AW.condF rfl ?_ | (refine AW.cond rfl (fun hc => ?_) (fun hc => ?_) <;> (try simp only [hsx] at hc) <;> (try first | (exfalso; omega) | contradiction | (exfalso; simp [dec_eq] at hc; done))) | refine AW.ret ?_ | refine AW.exit ?_ | refine Then.ret ?_ | refine Then.exit ?_ | refine InB.ret ?_ | refine InB.here ?_ | refine InB.off rfl ?_ | refine Rnd.ret ?_ | refine Rnd.exit ?_ | refine AW.drawW mixed (by kernel_rfl) ?_))
  · rw [dec_neg (p := a = b) (fun e => by subst e; exact hc rfl)]
    exact RQ.fin rfl rfl rfl
  have hlen : a.length = b.length := by omega
  clear hc
  refine AW.loop (α := Int) (fun i => ⟨[(0, .imm (.sl (a.map Attr.iv))), (1, .imm (.sl (b.map Attr.iv))), (12, iav (a.map Attr.iv).length), (13, iav i)], []⟩) (fun i => 0 ≤ i ∧ i ≤ a.length ∧ a.take i.toNat = b.take i.toNat) (fun i => (a.length - i).toNat) 0 (Le.cut 0 rfl (by repeat' (first | exact trivial | refine ⟨rfl, ?_⟩)) rfl rfl (Nat.zero_le _)) ⟨by omega, by omega, rfl⟩ ?_
  intro i ⟨h0, h1, h2⟩
  (repeat' (first | ((with_reducible show AL _ _ _ _ _); first | (refine AL.step tabs rfl ?_; try dsimp only [len, List.nil_append, List.cons_append]) | refine AL.nil ?_ | (refine AL.op rfl (OpOK.ari64 rfl rfl rfl rfl rfl (by omega) (by omega)) ?_) | (refine AL.op rfl (OpOK.index_map tabs rfl rfl rfl rfl rfl rfl rfl (fun _ => rfl) (by decide) (by omega) (by omega)) ?_) | (refine AL.op rfl (OpOK.eqs rfl rfl rfl rfl eqt104 rfl rfl) ?_)) | ((with_reducible show DQ _ _ _ _ _ _); first | refine DQ.stepc (LS.val tabs rfl rfl rfl) rfl rfl rfl rfl rfl ?_ | refine DQ.stepc (LS.skip rfl rfl) rfl rfl rfl rfl rfl ?_ | refine DQ.nilM (by kernel_rfl) ?_ | refine DQ.stepc (LS.ari64 rfl rfl rfl rfl rfl rfl (by omega) (by omega)) rfl rfl rfl rfl rfl ?_ | refine DQ.stepc (LS.index_map tabs rfl rfl rfl rfl rfl rfl rfl rfl (fun _ => rfl) (by decide) (by omega) (by omega)) rfl rfl rfl rfl rfl ?_ | refine DQ.stepc (LS.eqs rfl rfl rfl rfl rfl eqt104 rfl rfl) rfl rfl rfl rfl rfl ?_) | refine AW.seq ?_ | refine AW.region ?_ | refine Then.norm ?_ | refine AW.skip ?_ | refine AW.block ?_ | refine InB.norm ?_ | refine AW.condT rfl ?_ | refine AW.condF rfl ?_ | (refine AW.cond rfl (fun hc => ?_) (fun hc => ?_) <;> (try simp only [hsx] at hc) <;> (try first | (exfalso; omega) | contradiction | (exfalso; simp [dec_eq] at hc; done))) | refine AW.ret ?_ | refine AW.exit ?_ | refine Then.ret ?_ | refine Then.exit ?_ | refine InB.ret ?_ | refine InB.here ?_ | refine InB.off rfl ?_ | refine Rnd.ret ?_ | refine Rnd.exit ?_ | refine AW.drawW mixed (by kernel_rfl) ?_))
  · rw [dec_neg (p := a = b) (list_ne (i := i) (fun e => by rw [e] at hc; simp [dec_eq] at hc))]
    exact RQ.fin rfl rfl rfl
  · have e : atI a i = atI b i := by
      simp only [Bool.and_eq_true, dec_true] at hc
      rw [attr_eq, name_eq]; grind
    refine Rnd.norm (i + 1) (Le.cut 0 rfl (by repeat' (first | exact trivial | refine ⟨rfl, ?_⟩)) rfl rfl (Nat.zero_le _)) ⟨by omega, by omega, ?_⟩ (by omega)
    rw [take_next h0 (by assumption), take_next h0 (by omega), h2, e]
  · rw [take_end hc, take_end (by omega)] at h2
    rw [dec_pos (p := a = b) h2]; exact RQ.fin rfl rfl rfl
def restAv (n : Node) : AV := .agg [kav n.kind, sav n.name.sp, sav n.name.pf, sav n.name.lc, sav n.pub, sav n.sys, iav n.parent, iav n.doc, iav n.host, iav n.shadow, kav n.mode, bav n.manual, bav n.html]
theorem rest_c (n : Node) : PureC Tryz.prog 160 [n.av] (restAv n) := by
  refine PureC.mk tabs Tryz.func160 26 [.cell 2 167] rfl rfl rfl rfl rfl ?_; intro w0 X
  (repeat' (first | ((with_reducible show AL _ _ _ _ _); first | (refine AL.step tabs rfl ?_; try dsimp only [len, List.nil_append, List.cons_append]) | refine AL.nil ?_) | refine AW.seq ?_ | refine AW.region ?_ | refine Then.norm ?_ | refine AW.skip ?_ | refine AW.ret ?_ | refine Then.ret ?_))
  exact RQ.fin rfl rfl rfl
theorem sameNode_c (a b : Node) (ha : FitN a) : PureC Tryz.prog 132 [a.av, b.av] (bav (dec (a = b))) := by
  refine PureC.mk tabs Tryz.func132 35 [.tmp 4] rfl rfl rfl rfl rfl ?_; intro w0 X
  (repeat' (first | ((with_reducible show AL _ _ _ _ _); first | (refine AL.step tabs rfl ?_; try dsimp only [len, List.nil_append, List.cons_append]) | refine AL.op rfl (OpOK.call rfl rfl rfl rfl (equ16_c a.data b.data ha.data) rfl) ?_ | refine AL.op rfl (OpOK.call rfl rfl rfl rfl (eqattr_c a.attrs b.attrs ha.attrs) rfl) ?_ | refine AL.op rfl (OpOK.call rfl rfl rfl rfl (eqint_c a.kids b.kids ha.kids) rfl) ?_ | refine AL.nil ?_ | (refine AL.gsplitE rfl rfl rfl (fun hc => ?_) (fun hc => ?_) <;> (fail_if_success (exact absurd hc (by decide))) <;> (try simp only [hsx] at hc) <;> (try first | (exfalso; omega) | contradiction | (exfalso; simp [dec_eq] at hc; done))) | (refine AL.op rfl (OpOK.eqs rfl rfl rfl rfl eqt167 rfl rfl) ?_)) | ((with_reducible show DQ _ _ _ _ _ _); first | refine DQ.stepc (LS.call rfl rfl rfl rfl rfl (rest_c a) rfl) rfl rfl rfl rfl rfl ?_ | refine DQ.stepc (LS.call rfl rfl rfl rfl rfl (rest_c b) rfl) rfl rfl rfl rfl rfl ?_ | refine DQ.stepc (LS.val tabs rfl rfl rfl) rfl rfl rfl rfl rfl ?_ | refine DQ.stepc (LS.skip rfl rfl) rfl rfl rfl rfl rfl ?_ | refine DQ.nilM (by kernel_rfl) ?_ | (refine DQ.gsplitE rfl rfl rfl (fun hc => ?_) (fun hc => ?_) <;> (fail_if_success (exact absurd hc (by decide))) <;> (try simp only [hsx] at hc) <;> (try first | (exfalso; omega) | contradiction | (exfalso; simp [dec_eq] at hc; done))) | refine DQ.stepc (LS.eqs rfl rfl rfl rfl rfl eqt167 rfl rfl) rfl rfl rfl rfl rfl ?_) | refine AW.seq ?_ | refine AW.region ?_ | refine Then.norm ?_ | refine AW.skip ?_ | refine AW.condT rfl ?_ | refine AW.condF rfl ?_ | (refine AW.cond rfl (fun hc => ?_) (fun hc => ?_) <;> (try simp only [hsx] at hc) <;> (try first | (exfalso; omega) | contradiction | (exfalso; simp [dec_eq] at hc; done))) | refine AW.ret ?_ | refine Then.ret ?_ | refine AW.drawW mixed (by kernel_rfl) ?_))
  all_goals (refine RQ.fin rfl rfl (congrArg bav ?_); rw [Bool.eq_iff_iff]; simp only [Bool.and_eq_true, dec_true, node_eq, name_eq, beq_iff_eq]; grind)
def numsAv (c : Change) : AV := .agg [iav c.kind, iav c.node, iav c.parent, iav c.index, iav c.other, iav c.doc, iav c.offset, iav c.count, iav c.prev]
theorem nums_c (c : Change) (h0 : 0 ≤ c.kind) (h1 : c.kind < 256) : PureC Tryz.prog 134 [c.av] (numsAv c) := by
  rw [show numsAv c = .agg [iav (IntKind.i64.wrap c.kind), iav c.node, iav c.parent, iav c.index, iav c.other, iav c.doc, iav c.offset, iav c.count, iav c.prev] by rw [i64_id (by omega) (by omega)]; rfl]
  refine PureC.mk tabs Tryz.func134 23 [.cell 2 141] rfl rfl rfl rfl rfl ?_; intro w0 X
  (repeat' (first | ((with_reducible show AL _ _ _ _ _); first | (refine AL.step tabs rfl ?_; try dsimp only [len, List.nil_append, List.cons_append]) | refine AL.op rfl (OpOK.convInt tabs rfl rfl rfl rfl rfl rfl) ?_ | refine AL.op rfl (OpOK.buildArr tabs rfl rfl rfl rfl Tryz.underlying141 rfl rfl) ?_ | refine AL.nil ?_) | refine AW.seq ?_ | refine AW.region ?_ | refine Then.norm ?_ | refine AW.skip ?_ | refine AW.ret ?_ | refine Then.ret ?_))
  exact RQ.fin rfl rfl rfl
end Go.Proofs.YtmhejcnaanocpaaGreat.A
namespace Go.Proofs.YtmhejcnaanocpaaGreat.A
set_option linter.unusedVariables false
set_option linter.unusedSimpArgs false
set_option maxRecDepth 100000
set_option maxHeartbeats 4000000
theorem pure_true {P : Program} {f : FuncId} {args : List AV} {p : Prop} (h : PureC P f args (bav (dec p))) (hp : p) : PureC P f args (bav true) := by rw [dec_pos hp] at h; exact h
theorem sameChange_c (a b : Change) (ha : a.data.length ≤ 1000000000) (hm : FitN a.made) (h3 : a.added.length ≤ 1000000000) (h4 : a.removed.length ≤ 1000000000) (ha0 : 0 ≤ a.kind) (ha1 : a.kind < 256) (hb0 : 0 ≤ b.kind) (hb1 : b.kind < 256) : PureC Tryz.prog 96 [a.av, b.av] (bav (dec (a = b))) := by
  refine PureC.mk tabs Tryz.func96 85 [.tmp 4] rfl rfl rfl rfl rfl ?_; intro w0 X
  (repeat' (first | ((with_reducible show AL _ _ _ _ _); first | (refine AL.step tabs rfl ?_; try dsimp only [len, List.nil_append, List.cons_append]) | refine AL.op rfl (OpOK.call rfl rfl rfl rfl (equ16_c a.data b.data ha) rfl) ?_ | refine AL.op rfl (OpOK.call rfl rfl rfl rfl (sameNode_c a.made b.made hm) rfl) ?_ | refine AL.op rfl (OpOK.call rfl rfl rfl rfl (eqint_c a.added b.added h3) rfl) ?_ | refine AL.op rfl (OpOK.call rfl rfl rfl rfl (eqint_c a.removed b.removed h4) rfl) ?_ | refine AL.nil ?_ | (refine AL.gsplitE rfl rfl rfl (fun hc => ?_) (fun hc => ?_) <;> (fail_if_success (exact absurd hc (by decide))) <;> (try simp only [hsx] at hc) <;> (try first | (exfalso; omega) | contradiction | (exfalso; simp [dec_eq] at hc; done))) | (refine AL.op rfl (OpOK.eqs rfl rfl rfl rfl eqt39 rfl rfl) ?_)) | ((with_reducible show DQ _ _ _ _ _ _); first | refine DQ.stepc (LS.call rfl rfl rfl rfl rfl (nums_c a ha0 ha1) rfl) rfl rfl rfl rfl rfl ?_ | refine DQ.stepc (LS.call rfl rfl rfl rfl rfl (nums_c b hb0 hb1) rfl) rfl rfl rfl rfl rfl ?_ | refine DQ.stepc (LS.eqs rfl rfl rfl rfl rfl eqt141 rfl rfl) rfl rfl rfl rfl rfl ?_ | refine DQ.stepc (LS.val tabs rfl rfl rfl) rfl rfl rfl rfl rfl ?_ | refine DQ.stepc (LS.skip rfl rfl) rfl rfl rfl rfl rfl ?_ | refine DQ.nilM (by kernel_rfl) ?_ | (refine DQ.gsplitE rfl rfl rfl (fun hc => ?_) (fun hc => ?_) <;> (fail_if_success (exact absurd hc (by decide))) <;> (try simp only [hsx] at hc) <;> (try first | (exfalso; omega) | contradiction | (exfalso; simp [dec_eq] at hc; done))) | refine DQ.stepc (LS.eqs rfl rfl rfl rfl rfl eqt39 rfl rfl) rfl rfl rfl rfl rfl ?_) | refine AW.seq ?_ | refine AW.region ?_ | refine Then.norm ?_ | refine AW.skip ?_ | refine AW.condT rfl ?_ | refine AW.condF rfl ?_ | (refine AW.cond rfl (fun hc => ?_) (fun hc => ?_) <;> (try simp only [hsx] at hc) <;> (try first | (exfalso; omega) | contradiction | (exfalso; simp [dec_eq] at hc; done))) | refine AW.ret ?_ | refine Then.ret ?_ | refine AW.drawW mixed (by kernel_rfl) ?_))
  all_goals
    refine RQ.fin rfl rfl (congrArg bav ?_)
    rw [Bool.eq_iff_iff]
    simp only [Bool.and_eq_true, dec_true, change_eq, name_eq, beq_iff_eq]
    try simp only [List.cons.injEq, and_true, Bool.and_eq_false_iff, Bool.and_eq_true, dec_true, dec_false] at *
    grind
theorem sameSelf_c (a : Change) (ha : a.data.length ≤ 1000000000) (hm : FitN a.made) (h3 : a.added.length ≤ 1000000000) (h4 : a.removed.length ≤ 1000000000) (ha0 : 0 ≤ a.kind) (ha1 : a.kind < 256) : PureC Tryz.prog 96 [a.av, a.av] (bav true) := pure_true (sameChange_c a a ha hm h3 h4 ha0 ha1 ha0 ha1) rfl
end Go.Proofs.YtmhejcnaanocpaaGreat.A
namespace Go.Proofs.YtmhejcnaanocpaaGreat.A
set_option linter.unusedVariables false
set_option linter.unusedSimpArgs false
set_option maxRecDepth 100000
set_option maxHeartbeats 4000000
theorem cloneD_c (l : List Int) (hl : l.length ≤ 1000000000) : PureC Tryz.prog 106 [.imm (.sl (l.map u16))] (.imm (.sl (l.map u16))) := by
  refine PureC.mk tabs Tryz.func106 8 [.tmp 2] rfl rfl rfl rfl rfl ?_; intro w0 X
  (repeat' (first | ((with_reducible show AL _ _ _ _ _); first | (refine AL.step tabs rfl ?_; try dsimp only [len, List.nil_append, List.cons_append]) | refine AL.slnil tabs rfl rfl rfl rfl rfl rfl rfl (fun b hb => ?_) | refine AL.ope rfl (OpOK.append_os (ie := ti55) (b := ⟨55, 1, []⟩) tabs rfl rfl rfl rfl rfl rfl rfl rfl rfl rfl (SrcA.imm (rows := l.map u16) tabs rfl rfl rfl (by simp [u16, ti55])) (by simp [ti55, chunk]; omega) (by simp [chunk]; omega)) rfl ?_ | refine AL.nil ?_) | refine AW.seq ?_ | refine AW.region ?_ | refine Then.norm ?_ | refine AW.skip ?_ | refine AW.condT rfl ?_ | refine AW.condF rfl ?_ | (refine AW.cond rfl (fun hc => ?_) (fun hc => ?_) <;> (try simp only [hsx] at hc) <;> (try first | (exfalso; omega) | contradiction | (exfalso; simp [dec_eq] at hc; done))) | refine AW.ret ?_ | refine Then.ret ?_))
  · have e : l = [] := by simpa using hb hc
    subst e; exact RQ.fin rfl rfl rfl
  · exact RQ.ret rfl (Fz.os (b := ⟨55, 1, (l.map u16).map (·.map .imm)⟩) (rows := l.map u16) rfl (by simp) rfl)
theorem cloneA_c (l : List Attr) (hl : l.length ≤ 1000000000) : PureC Tryz.prog 107 [.imm (.sl (l.map Attr.iv))] (.imm (.sl (l.map Attr.iv))) := by
  refine PureC.mk tabs Tryz.func107 8 [.tmp 2] rfl rfl rfl rfl rfl ?_; intro w0 X
  (repeat' (first | ((with_reducible show AL _ _ _ _ _); first | (refine AL.step tabs rfl ?_; try dsimp only [len, List.nil_append, List.cons_append]) | refine AL.slnil tabs rfl rfl rfl rfl rfl rfl rfl (fun b hb => ?_) | refine AL.ope rfl (OpOK.append_os (ie := ti104) (b := ⟨104, 4, []⟩) tabs rfl rfl rfl rfl rfl rfl rfl rfl rfl rfl (SrcA.imm (rows := l.map Attr.iv) tabs rfl rfl rfl (by simp [Attr.iv, ti104])) (by simp [ti104, chunk]; omega) (by simp [chunk]; omega)) rfl ?_ | refine AL.nil ?_) | refine AW.seq ?_ | refine AW.region ?_ | refine Then.norm ?_ | refine AW.skip ?_ | refine AW.condT rfl ?_ | refine AW.condF rfl ?_ | (refine AW.cond rfl (fun hc => ?_) (fun hc => ?_) <;> (try simp only [hsx] at hc) <;> (try first | (exfalso; omega) | contradiction | (exfalso; simp [dec_eq] at hc; done))) | refine AW.ret ?_ | refine Then.ret ?_))
  · have e : l = [] := by simpa using hb hc
    subst e; exact RQ.fin rfl rfl rfl
  · exact RQ.ret rfl (Fz.os (b := ⟨104, 4, (l.map Attr.iv).map (·.map .imm)⟩) (rows := l.map Attr.iv) rfl (by simp) rfl)
theorem cloneI_c (l : List Int) (hl : l.length ≤ 1000000000) : PureC Tryz.prog 108 [.imm (.sl (l.map i64))] (.imm (.sl (l.map i64))) := by
  refine PureC.mk tabs Tryz.func108 8 [.tmp 2] rfl rfl rfl rfl rfl ?_; intro w0 X
  (repeat' (first | ((with_reducible show AL _ _ _ _ _); first | (refine AL.step tabs rfl ?_; try dsimp only [len, List.nil_append, List.cons_append]) | refine AL.slnil tabs rfl rfl rfl rfl rfl rfl rfl (fun b hb => ?_) | refine AL.ope rfl (OpOK.append_os (ie := ti3) (b := ⟨3, 1, []⟩) tabs rfl rfl rfl rfl rfl rfl rfl rfl rfl rfl (SrcA.imm (rows := l.map i64) tabs rfl rfl rfl (by simp [i64, ti3])) (by simp [ti3, chunk]; omega) (by simp [chunk]; omega)) rfl ?_ | refine AL.nil ?_) | refine AW.seq ?_ | refine AW.region ?_ | refine Then.norm ?_ | refine AW.skip ?_ | refine AW.condT rfl ?_ | refine AW.condF rfl ?_ | (refine AW.cond rfl (fun hc => ?_) (fun hc => ?_) <;> (try simp only [hsx] at hc) <;> (try first | (exfalso; omega) | contradiction | (exfalso; simp [dec_eq] at hc; done))) | refine AW.ret ?_ | refine Then.ret ?_))
  · have e : l = [] := by simpa using hb hc
    subst e; exact RQ.fin rfl rfl rfl
  · exact RQ.ret rfl (Fz.os (b := ⟨3, 1, (l.map i64).map (·.map .imm)⟩) (rows := l.map i64) rfl (by simp) rfl)
/-- Of a list without elements: one without room. -/
theorem cloneI0_c : PureC Tryz.prog 108 [.imm (.sl [])] .nocap := by
  refine PureC.mk tabs Tryz.func108 8 [.tmp 2] rfl rfl rfl rfl rfl ?_; intro w0 X
  (repeat' (first | ((with_reducible show AL _ _ _ _ _); first | refine AL.ope rfl (OpOK.lit0 tabs rfl rfl rfl rfl rfl rfl) rfl ?_ | (refine AL.step tabs rfl ?_; try dsimp only [len, List.nil_append, List.cons_append]) | refine AL.slnil tabs rfl rfl rfl rfl rfl rfl rfl (fun b hb => ?_) | refine AL.ope rfl (OpOK.append_nocap0 tabs rfl rfl rfl rfl rfl rfl (SrcA.imm (rows := []) tabs rfl rfl rfl (by simp))) rfl ?_ | refine AL.nil ?_) | refine AW.seq ?_ | refine AW.region ?_ | refine Then.norm ?_ | refine AW.skip ?_ | refine AW.condT rfl ?_ | refine AW.condF rfl ?_ | (refine AW.cond rfl (fun hc => ?_) (fun hc => ?_) <;> (try simp only [hsx] at hc) <;> (try first | (exfalso; omega) | contradiction | (exfalso; simp [dec_eq] at hc; done))) | refine AW.ret ?_ | refine Then.ret ?_))
  · exact RQ.ret rfl fun γ κ a W x hC hr => by cases hr; exact .nocap _
  · exact RQ.ret rfl (Fz.im rfl)
theorem copyNode_c (n : Node) (hn : FitN n) : PureC Tryz.prog 94 [n.av] n.av := by
  refine PureC.mk tabs Tryz.func94 16 [.cell 2 44] rfl rfl rfl rfl rfl ?_; intro w0 X
  (repeat' (first | ((with_reducible show AL _ _ _ _ _); first | (refine AL.step tabs rfl ?_; try dsimp only [len, List.nil_append, List.cons_append]) | refine AL.op rfl (OpOK.call rfl rfl rfl rfl (cloneD_c n.data hn.data) rfl) ?_ | refine AL.op rfl (OpOK.call rfl rfl rfl rfl (cloneA_c n.attrs hn.attrs) rfl) ?_ | refine AL.op rfl (OpOK.call rfl rfl rfl rfl (cloneI_c n.kids hn.kids) rfl) ?_ | refine AL.nil ?_) | refine AW.seq ?_ | refine AW.region ?_ | refine Then.norm ?_ | refine AW.skip ?_ | refine AW.ret ?_ | refine Then.ret ?_))
  exact RQ.fin rfl rfl rfl
def plainMk (c : Change) : Change := { c0 with kind := c.kind, node := c.node, made := c.made }
theorem plainMake_c (c : Change) : PureC Tryz.prog 110 [c.av] (plainMk c).av := by
  refine PureC.mk tabs Tryz.func110 10 [.cell 2 58] rfl rfl rfl rfl rfl ?_; intro w0 X
  (repeat' (first | ((with_reducible show AL _ _ _ _ _); first | (refine AL.step tabs rfl ?_; try dsimp only [len, List.nil_append, List.cons_append]) | refine AL.nil ?_) | refine AW.seq ?_ | refine AW.region ?_ | refine Then.norm ?_ | refine AW.skip ?_ | refine AW.ret ?_ | refine Then.ret ?_))
  exact RQ.fin rfl rfl rfl
def plainLn (c : Change) : Change := { c0 with kind := c.kind, node := c.node, parent := c.parent, index := c.index }
theorem plainLink_c (c : Change) : PureC Tryz.prog 112 [c.av] (plainLn c).av := by
  refine PureC.mk tabs Tryz.func112 12 [.cell 2 58] rfl rfl rfl rfl rfl ?_; intro w0 X
  (repeat' (first | ((with_reducible show AL _ _ _ _ _); first | (refine AL.step tabs rfl ?_; try dsimp only [len, List.nil_append, List.cons_append]) | refine AL.nil ?_) | refine AW.seq ?_ | refine AW.region ?_ | refine Then.norm ?_ | refine AW.skip ?_ | refine AW.ret ?_ | refine Then.ret ?_))
  exact RQ.fin rfl rfl rfl
def copiedOf (n : Node) (doc : Int) : Node := { n0 with kind := n.kind, name := n.name, pub := n.pub, sys := n.sys, data := n.data, attrs := n.attrs, html := n.html, doc := doc }
theorem ownNode_c (n : Node) (hn : FitN n) : PureC Tryz.prog 99 [n.av] n.av := by
  refine PureC.mk tabs Tryz.func99 16 [.cell 2 44] rfl rfl rfl rfl rfl ?_; intro w0 X
  (repeat' (first | ((with_reducible show AL _ _ _ _ _); first | (refine AL.step tabs rfl ?_; try dsimp only [len, List.nil_append, List.cons_append]) | refine AL.ope rfl (OpOK.append_nil (ie := ti55) tabs rfl rfl rfl rfl rfl (by decide) rfl (SrcA.imm (rows := (n.data.map u16)) tabs rfl rfl rfl (by simp [i64, u16, Attr.iv, ti3, ti55, ti104])) (by have := hn.data; have := hn.attrs; have := hn.kids; simp [ti3, ti55, ti104]; omega) (by have := hn.data; have := hn.attrs; have := hn.kids; simp; omega)) rfl ?_ | refine AL.ope rfl (OpOK.append_nil (ie := ti104) tabs rfl rfl rfl rfl rfl (by decide) rfl (SrcA.imm (rows := n.attrs.map Attr.iv) tabs rfl rfl rfl (by simp [i64, u16, Attr.iv, ti3, ti55, ti104])) (by have := hn.data; have := hn.attrs; have := hn.kids; simp [ti3, ti55, ti104]; omega) (by have := hn.data; have := hn.attrs; have := hn.kids; simp; omega)) rfl ?_ | refine AL.ope rfl (OpOK.append_nil (ie := ti3) tabs rfl rfl rfl rfl rfl (by decide) rfl (SrcA.imm (rows := n.kids.map i64) tabs rfl rfl rfl (by simp [i64, u16, Attr.iv, ti3, ti55, ti104])) (by have := hn.data; have := hn.attrs; have := hn.kids; simp [ti3, ti55, ti104]; omega) (by have := hn.data; have := hn.attrs; have := hn.kids; simp; omega)) rfl ?_ | refine AL.nil ?_) | refine AW.seq ?_ | refine AW.region ?_ | refine Then.norm ?_ | refine AW.skip ?_ | refine AW.ret ?_ | refine Then.ret ?_))
  exact RQ.ret rfl (Fz.agg (.cons (Fz.im rfl) (.cons (Fz.im rfl) (.cons (Fz.im rfl) (.cons (Fz.im rfl) (.cons (Fz.im rfl) (.cons (Fz.im rfl) (.cons (Fz.os (b := ⟨55, 1, (n.data.map u16).map (·.map .imm)⟩) (rows := n.data.map u16) rfl rfl rfl) (.cons (Fz.os (b := ⟨104, 4, (n.attrs.map Attr.iv).map (·.map .imm)⟩) (rows := n.attrs.map Attr.iv) rfl rfl rfl) (.cons (Fz.im rfl) (.cons (Fz.os (b := ⟨3, 1, (n.kids.map i64).map (·.map .imm)⟩) (rows := n.kids.map i64) rfl rfl rfl) (.cons (Fz.im rfl) (.cons (Fz.im rfl) (.cons (Fz.im rfl) (.cons (Fz.im rfl) (.cons (Fz.im rfl) (.cons (Fz.im rfl) .nil)))))))))))))))))
structure FitC (c : Change) : Prop where
  data : c.data.length ≤ 1000000000
  made : FitN c.made
  added : c.added.length ≤ 1000000000
  removed : c.removed.length ≤ 1000000000
theorem ownChange_c (c : Change) (hc : FitC c) : PureC Tryz.prog 87 [c.av] c.av := by
  refine PureC.mk tabs Tryz.func87 20 [.cell 2 58] rfl rfl rfl rfl rfl ?_; intro w0 X
  (repeat' (first | ((with_reducible show AL _ _ _ _ _); first | (refine AL.step tabs rfl ?_; try dsimp only [len, List.nil_append, List.cons_append]) | refine AL.ope rfl (OpOK.append_nil (ie := ti55) tabs rfl rfl rfl rfl rfl (by decide) rfl (SrcA.imm (rows := c.data.map u16) tabs rfl rfl rfl (by simp [i64, u16, ti3, ti55])) (by have := hc.data; have := hc.added; have := hc.removed; simp [ti3, ti55]; omega) (by have := hc.data; have := hc.added; have := hc.removed; simp; omega)) rfl ?_ | refine AL.ope rfl (OpOK.append_nil (ie := ti3) tabs rfl rfl rfl rfl rfl (by decide) rfl (SrcA.imm (rows := c.added.map i64) tabs rfl rfl rfl (by simp [i64, u16, ti3, ti55])) (by have := hc.data; have := hc.added; have := hc.removed; simp [ti3, ti55]; omega) (by have := hc.data; have := hc.added; have := hc.removed; simp; omega)) rfl ?_ | refine AL.ope rfl (OpOK.append_nil (ie := ti3) tabs rfl rfl rfl rfl rfl (by decide) rfl (SrcA.imm (rows := c.removed.map i64) tabs rfl rfl rfl (by simp [i64, u16, ti3, ti55])) (by have := hc.data; have := hc.added; have := hc.removed; simp [ti3, ti55]; omega) (by have := hc.data; have := hc.added; have := hc.removed; simp; omega)) rfl ?_ | refine AL.op rfl (OpOK.call rfl rfl rfl rfl (ownNode_c c.made hc.made) rfl) ?_ | refine AL.nil ?_) | refine AW.seq ?_ | refine AW.region ?_ | refine Then.norm ?_ | refine AW.skip ?_ | refine AW.ret ?_ | refine Then.ret ?_))
  exact RQ.ret rfl (Fz.agg (.cons (Fz.im rfl) (.cons (Fz.im rfl) (.cons (Fz.im rfl) (.cons (Fz.im rfl) (.cons (Fz.im rfl) (.cons (Fz.im rfl) (.cons (Fz.im rfl) (.cons (Fz.im rfl) (.cons (Fz.os (b := ⟨55, 1, (c.data.map u16).map (·.map .imm)⟩) (rows := c.data.map u16) rfl rfl rfl) (.cons (Fz.im rfl) (.cons (Fz.im rfl) (.cons (Fz.im rfl) (.cons (Fz.im rfl) (.cons (Fz.im rfl) (.cons (Fz.im rfl) (.cons (Fz.im rfl) (.cons (Fz.im rfl) (.cons (Fz.im rfl) (.cons (Fz.im rfl) (.cons (Fz.im rfl) (.cons (Fz.im rfl) (.cons (Fz.im rfl) (.cons (Fz.im rfl) (.cons (Fz.im rfl) (.cons (Fz.im rfl) (.cons (Fz.im rfl) (.cons (Fz.im rfl) (.cons (Fz.im rfl) (.cons (Fz.im rfl) (.cons (Fz.im rfl) (.cons (Fz.im rfl) (.cons (Fz.im rfl) (.cons (Fz.os (b := ⟨3, 1, (c.added.map i64).map (·.map .imm)⟩) (rows := c.added.map i64) rfl rfl rfl) (.cons (Fz.os (b := ⟨3, 1, (c.removed.map i64).map (·.map .imm)⟩) (rows := c.removed.map i64) rfl rfl rfl) (.cons (Fz.im rfl) (.cons (Fz.im rfl) .nil)))))))))))))))))))))))))))))))))))))
end Go.Proofs.YtmhejcnaanocpaaGreat.A
