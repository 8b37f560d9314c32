/- Contracts: changes held against one another. -/
import Derived.Test.YtmhejcnaanocpaaGreatXRSGrpAK
import Derived.Test.YtmhejcnaanocpaaGreatXRSGrpAI
namespace Go.Proofs.YtmhejcnaanocpaaGreat.A
set_option linter.unusedVariables false
set_option linter.unusedSimpArgs false
set_option maxRecDepth 100000
set_option maxHeartbeats 4000000
theorem qdp {P : Program} {f : FuncId} {args : List AV} {p : Prop} (h : PureC P f args (bav (dec p))) (hp : p) : PureC P f args (bav true) := by rw [qai hp] at h; exact h
theorem qfh (a b : Change) (ha : a.data.length ≤ 1000000000) (hm : FitN a.made) (h3 : a.added.length ≤ 1000000000) (h4 : a.removed.length ≤ 1000000000) (ha0 : 0 ≤ a.kind) (ha1 : a.kind < 256) (hb0 : 0 ≤ b.kind) (hb1 : b.kind < 256) : PureC Tryz.prog 96 [a.av, b.av] (bav (dec (a = b))) := by
  refine yp tabs Tryz.func96 85 [.tmp 4] rfl rfl rfl rfl rfl ?_; intro w0 X
  (repeat' (first | ((with_reducible show AL _ _ _ _ _); first | (refine yf tabs rfl ?_; try dsimp only [len, List.nil_append, List.cons_append]) | refine AL.op rfl (yd rfl rfl rfl rfl (qin a.data b.data ha) rfl) ?_ | refine AL.op rfl (yd rfl rfl rfl rfl (qhn a.made b.made hm) rfl) ?_ | refine AL.op rfl (yd rfl rfl rfl rfl (qf4 a.added b.added h3) rfl) ?_ | refine AL.op rfl (yd rfl rfl rfl rfl (qf4 a.removed b.removed h4) rfl) ?_ | refine yn ?_ | (refine yq rfl rfl rfl (fun hc => ?_) (fun hc => ?_) <;> (fail_if_success (exact absurd hc (by decide))) <;> (try simp only [hsx] at hc) <;> (try first | omega | contradiction | (simp [qa] at hc; done))) | (refine AL.op rfl (ya6 rfl rfl rfl rfl eqt39 rfl rfl) ?_)) | ((with_reducible show DQ _ _ _ _ _ _); first | refine DQ.stepc (yai rfl rfl rfl rfl rfl (qmb a ha0 ha1) rfl) rfl rfl rfl rfl rfl ?_ | refine DQ.stepc (yai rfl rfl rfl rfl rfl (qmb b hb0 hb1) rfl) rfl rfl rfl rfl rfl ?_ | refine DQ.stepc (ybw rfl rfl rfl rfl rfl eqt141 rfl rfl) rfl rfl rfl rfl rfl ?_ | refine DQ.stepc (LS.val tabs rfl rfl rfl) rfl rfl rfl rfl rfl ?_ | refine DQ.stepc (yu rfl rfl) rfl rfl rfl rfl rfl ?_ | refine DQ.nilM (by kernel_rfl) ?_ | (refine DQ.gsplitE rfl rfl rfl (fun hc => ?_) (fun hc => ?_) <;> (fail_if_success (exact absurd hc (by decide))) <;> (try simp only [hsx] at hc) <;> (try first | omega | contradiction | (simp [qa] at hc; done))) | refine DQ.stepc (ybw rfl rfl rfl rfl rfl eqt39 rfl rfl) rfl rfl rfl rfl rfl ?_) | refine ym ?_ | refine ya ?_ | refine yb ?_ | refine yg ?_ | refine yi rfl ?_ | refine yh rfl ?_ | (refine yk rfl (fun hc => ?_) (fun hc => ?_) <;> (try simp only [hsx] at hc) <;> (try first | omega | contradiction | (simp [qa] at hc; done))) | refine yo ?_ | refine yc ?_ | refine yr mixed (by kernel_rfl) ?_))
  all_goals
    refine RQ.fin rfl rfl (congrArg bav ?_)
    rw [Bool.eq_iff_iff]
    simp only [Bool.and_eq_true, qc, qfg, qce, beq_iff_eq]
    try simp only [List.cons.injEq, and_true, Bool.and_eq_false_iff, Bool.and_eq_true, qc, qi] at *
    grind
theorem qad (a : Change) (ha : a.data.length ≤ 1000000000) (hm : FitN a.made) (h3 : a.added.length ≤ 1000000000) (h4 : a.removed.length ≤ 1000000000) (ha0 : 0 ≤ a.kind) (ha1 : a.kind < 256) : PureC Tryz.prog 96 [a.av, a.av] (bav true) := qdp (qfh a a ha hm h3 h4 ha0 ha1 ha0 ha1) rfl
theorem qg3 (a b : List Int) (hl : a.length ≤ 1000000000) : PureC Tryz.prog 72 [.imm (.sl (a.map u16)), .imm (.sl (b.map u16))] (bav (dec (a = b))) := by
  refine yp tabs Tryz.func72 26 [.tmp 4] rfl rfl rfl rfl rfl ?_; intro w0 X
  (repeat' (first | ((with_reducible show AL _ _ _ _ _); first | (refine yf tabs rfl ?_; try dsimp only [len, List.nil_append, List.cons_append]) | refine yn ?_ | (refine AL.op rfl (yj rfl rfl rfl rfl rfl (by omega) (by omega)) ?_) | (refine AL.op rfl (ye tabs rfl rfl rfl rfl rfl rfl rfl (fun _ => rfl) (by decide) (by omega) (by omega)) ?_)) | ((with_reducible show DQ _ _ _ _ _ _); first | refine DQ.stepc (LS.val tabs rfl rfl rfl) rfl rfl rfl rfl rfl ?_ | refine DQ.stepc (yu rfl rfl) rfl rfl rfl rfl rfl ?_ | refine DQ.nilM (by kernel_rfl) ?_ | refine DQ.stepc (yad rfl rfl rfl rfl rfl rfl (by omega) (by omega)) rfl rfl rfl rfl rfl ?_ | refine DQ.stepc (yw tabs rfl rfl rfl rfl rfl rfl rfl rfl (fun _ => rfl) (by decide) (by omega) (by omega)) rfl rfl rfl rfl rfl ?_) | fail | refine ym ?_ | refine ya ?_ | refine yb ?_ | refine yg ?_ | refine AW.block ?_ | refine yy ?_ | refine yi rfl ?_ | refine yh rfl ?_ | (refine yk rfl (fun hc => ?_) (fun hc => ?_) <;> (try simp only [hsx] at hc) <;> (try first | omega | contradiction | (simp [qa] at hc; done))) | refine yo ?_ | refine yaa ?_ | refine yc ?_ | refine yt ?_ | refine yab ?_ | refine yx ?_ | refine InB.off rfl ?_ | refine yaf ?_ | refine yac ?_ | refine yr mixed (by kernel_rfl) ?_))
  · rw [qu (p := a = b) (fun e => by subst e; exact hc rfl)]
    exact RQ.fin rfl rfl rfl
  have hlen : a.length = b.length := by omega
  clear hc
  refine yao (α := Int) (fun i => ⟨[(0, .imm (.sl (a.map u16))), (1, .imm (.sl (b.map u16))), (12, iav (a.map u16).length), (13, iav i)], []⟩) (fun i => 0 ≤ i ∧ i ≤ a.length ∧ a.take i.toNat = b.take i.toNat) (fun i => (a.length - i).toNat) 0 (yag 0 rfl (by repeat' (first | exact trivial | refine ⟨rfl, ?_⟩)) rfl rfl (Nat.zero_le _)) ⟨by omega, by omega, rfl⟩ ?_
  intro i ⟨h0, h1, h2⟩
  (repeat' (first | ((with_reducible show AL _ _ _ _ _); first | (refine yf tabs rfl ?_; try dsimp only [len, List.nil_append, List.cons_append]) | refine yn ?_ | (refine AL.op rfl (yj rfl rfl rfl rfl rfl (by omega) (by omega)) ?_) | (refine AL.op rfl (ye tabs rfl rfl rfl rfl rfl rfl rfl (fun _ => rfl) (by decide) (by omega) (by omega)) ?_)) | ((with_reducible show DQ _ _ _ _ _ _); first | refine DQ.stepc (LS.val tabs rfl rfl rfl) rfl rfl rfl rfl rfl ?_ | refine DQ.stepc (yu rfl rfl) rfl rfl rfl rfl rfl ?_ | refine DQ.nilM (by kernel_rfl) ?_ | refine DQ.stepc (yad rfl rfl rfl rfl rfl rfl (by omega) (by omega)) rfl rfl rfl rfl rfl ?_ | refine DQ.stepc (yw tabs rfl rfl rfl rfl rfl rfl rfl rfl (fun _ => rfl) (by decide) (by omega) (by omega)) rfl rfl rfl rfl rfl ?_) | refine ym ?_ | refine ya ?_ | refine yb ?_ | refine yg ?_ | refine AW.block ?_ | refine yy ?_ | refine yi rfl ?_ | refine yh rfl ?_ | (refine yk rfl (fun hc => ?_) (fun hc => ?_) <;> (try simp only [hsx] at hc) <;> (try first | omega | contradiction | (simp [qa] at hc; done))) | refine yo ?_ | refine yaa ?_ | refine yc ?_ | refine yt ?_ | refine yab ?_ | refine yx ?_ | refine InB.off rfl ?_ | refine yaf ?_ | refine yac ?_ | refine yr mixed (by kernel_rfl) ?_))
  · rw [qu (p := a = b) (qcf hc)]
    exact RQ.fin rfl rfl rfl
  · refine yak (i + 1) (yag 0 rfl (by repeat' (first | exact trivial | refine ⟨rfl, ?_⟩)) rfl rfl (Nat.zero_le _)) ⟨by omega, by omega, ?_⟩ (by omega)
    rw [qg h0 (by assumption), qg h0 (by omega), h2, hc]
  · rw [qo hc, qo (by omega)] at h2
    rw [qai (p := a = b) h2]; exact RQ.fin rfl rfl rfl
theorem qf5 (a b : List Int) (hl : a.length ≤ 1000000000) : PureC Tryz.prog 73 [.imm (.sl (a.map i64)), .imm (.sl (b.map i64))] (bav (dec (a = b))) := by
  refine yp tabs Tryz.func73 26 [.tmp 4] rfl rfl rfl rfl rfl ?_; intro w0 X
  (repeat' (first | ((with_reducible show AL _ _ _ _ _); first | (refine yf tabs rfl ?_; try dsimp only [len, List.nil_append, List.cons_append]) | refine yn ?_ | (refine AL.op rfl (yj rfl rfl rfl rfl rfl (by omega) (by omega)) ?_) | (refine AL.op rfl (ye tabs rfl rfl rfl rfl rfl rfl rfl (fun _ => rfl) (by decide) (by omega) (by omega)) ?_)) | ((with_reducible show DQ _ _ _ _ _ _); first | refine DQ.stepc (LS.val tabs rfl rfl rfl) rfl rfl rfl rfl rfl ?_ | refine DQ.stepc (yu rfl rfl) rfl rfl rfl rfl rfl ?_ | refine DQ.nilM (by kernel_rfl) ?_ | refine DQ.stepc (yad rfl rfl rfl rfl rfl rfl (by omega) (by omega)) rfl rfl rfl rfl rfl ?_ | refine DQ.stepc (yw tabs rfl rfl rfl rfl rfl rfl rfl rfl (fun _ => rfl) (by decide) (by omega) (by omega)) rfl rfl rfl rfl rfl ?_) | fail | refine ym ?_ | refine ya ?_ | refine yb ?_ | refine yg ?_ | refine AW.block ?_ | refine yy ?_ | refine yi rfl ?_ | refine yh rfl ?_ | (refine yk rfl (fun hc => ?_) (fun hc => ?_) <;> (try simp only [hsx] at hc) <;> (try first | omega | contradiction | (simp [qa] at hc; done))) | refine yo ?_ | refine yaa ?_ | refine yc ?_ | refine yt ?_ | refine yab ?_ | refine yx ?_ | refine InB.off rfl ?_ | refine yaf ?_ | refine yac ?_ | refine yr mixed (by kernel_rfl) ?_))
  · rw [qu (p := a = b) (fun e => by subst e; exact hc rfl)]
    exact RQ.fin rfl rfl rfl
  have hlen : a.length = b.length := by omega
  clear hc
  refine yao (α := Int) (fun i => ⟨[(0, .imm (.sl (a.map i64))), (1, .imm (.sl (b.map i64))), (12, iav (a.map i64).length), (13, iav i)], []⟩) (fun i => 0 ≤ i ∧ i ≤ a.length ∧ a.take i.toNat = b.take i.toNat) (fun i => (a.length - i).toNat) 0 (yag 0 rfl (by repeat' (first | exact trivial | refine ⟨rfl, ?_⟩)) rfl rfl (Nat.zero_le _)) ⟨by omega, by omega, rfl⟩ ?_
  intro i ⟨h0, h1, h2⟩
  (repeat' (first | ((with_reducible show AL _ _ _ _ _); first | (refine yf tabs rfl ?_; try dsimp only [len, List.nil_append, List.cons_append]) | refine yn ?_ | (refine AL.op rfl (yj rfl rfl rfl rfl rfl (by omega) (by omega)) ?_) | (refine AL.op rfl (ye tabs rfl rfl rfl rfl rfl rfl rfl (fun _ => rfl) (by decide) (by omega) (by omega)) ?_)) | ((with_reducible show DQ _ _ _ _ _ _); first | refine DQ.stepc (LS.val tabs rfl rfl rfl) rfl rfl rfl rfl rfl ?_ | refine DQ.stepc (yu rfl rfl) rfl rfl rfl rfl rfl ?_ | refine DQ.nilM (by kernel_rfl) ?_ | refine DQ.stepc (yad rfl rfl rfl rfl rfl rfl (by omega) (by omega)) rfl rfl rfl rfl rfl ?_ | refine DQ.stepc (yw tabs rfl rfl rfl rfl rfl rfl rfl rfl (fun _ => rfl) (by decide) (by omega) (by omega)) rfl rfl rfl rfl rfl ?_) | refine ym ?_ | refine ya ?_ | refine yb ?_ | refine yg ?_ | refine AW.block ?_ | refine yy ?_ | refine yi rfl ?_ | refine yh rfl ?_ | (refine yk rfl (fun hc => ?_) (fun hc => ?_) <;> (try simp only [hsx] at hc) <;> (try first | omega | contradiction | (simp [qa] at hc; done))) | refine yo ?_ | refine yaa ?_ | refine yc ?_ | refine yt ?_ | refine yab ?_ | refine yx ?_ | refine InB.off rfl ?_ | refine yaf ?_ | refine yac ?_ | refine yr mixed (by kernel_rfl) ?_))
  · rw [qu (p := a = b) (qcf hc)]
    exact RQ.fin rfl rfl rfl
  · refine yak (i + 1) (yag 0 rfl (by repeat' (first | exact trivial | refine ⟨rfl, ?_⟩)) rfl rfl (Nat.zero_le _)) ⟨by omega, by omega, ?_⟩ (by omega)
    rw [qg h0 (by assumption), qg h0 (by omega), h2, hc]
  · rw [qo hc, qo (by omega)] at h2
    rw [qai (p := a = b) h2]; exact RQ.fin rfl rfl rfl
theorem qdq (a b : Node) (ha : FitN a) : PureC Tryz.prog 31 [a.av, b.av] (bav (dec (a = b))) := by
  have hla := ha.attrs
  refine yp tabs Tryz.func31 120 [.tmp 4] rfl rfl rfl rfl rfl ?_; intro w0 X
  (repeat' (first | ((with_reducible show AL _ _ _ _ _); first | (refine yf tabs rfl ?_; try dsimp only [len, List.nil_append, List.cons_append]) | refine AL.op rfl (yd rfl rfl rfl rfl (qg3 a.data b.data ha.data) rfl) ?_ | refine AL.op rfl (yd rfl rfl rfl rfl (qf5 a.kids b.kids ha.kids) rfl) ?_ | refine yn ?_ | (refine yq rfl rfl rfl (fun hc => ?_) (fun hc => ?_) <;> (fail_if_success (exact absurd hc (by decide))) <;> (try simp only [hsx] at hc) <;> (try first | omega | contradiction | (simp [qa] at hc; done))) | (refine AL.op rfl (yj rfl rfl rfl rfl rfl (by omega) (by omega)) ?_) | (refine AL.op rfl (ye tabs rfl rfl rfl rfl rfl rfl rfl (fun _ => rfl) (by decide) (by omega) (by omega)) ?_) | (refine AL.op rfl (ya6 rfl rfl rfl rfl eqt39 rfl rfl) ?_) | (refine AL.op rfl (ya6 rfl rfl rfl rfl eqt104 rfl rfl) ?_)) | ((with_reducible show DQ _ _ _ _ _ _); first | refine DQ.stepc (LS.val tabs rfl rfl rfl) rfl rfl rfl rfl rfl ?_ | refine DQ.stepc (yu rfl rfl) rfl rfl rfl rfl rfl ?_ | refine DQ.nilM (by kernel_rfl) ?_ | refine DQ.stepc (yad rfl rfl rfl rfl rfl rfl (by omega) (by omega)) rfl rfl rfl rfl rfl ?_ | refine DQ.stepc (yw tabs rfl rfl rfl rfl rfl rfl rfl rfl (fun _ => rfl) (by decide) (by omega) (by omega)) rfl rfl rfl rfl rfl ?_ | (refine DQ.gsplitE rfl rfl rfl (fun hc => ?_) (fun hc => ?_) <;> (fail_if_success (exact absurd hc (by decide))) <;> (try simp only [hsx] at hc) <;> (try first | omega | contradiction | (simp [qa] at hc; done))) | refine DQ.stepc (ybw rfl rfl rfl rfl rfl eqt39 rfl rfl) rfl rfl rfl rfl rfl ?_ | refine DQ.stepc (ybw rfl rfl rfl rfl rfl eqt104 rfl rfl) rfl rfl rfl rfl rfl ?_) | refine ym ?_ | refine ya ?_ | refine yb ?_ | refine yg ?_ | refine AW.block ?_ | refine yy ?_ | refine yi rfl ?_ | refine yh rfl ?_ | (refine yk rfl (fun hc => ?_) (fun hc => ?_) <;> (try simp only [hsx] at hc) <;> (try first | omega | contradiction | (simp [qa] at hc; done))) | refine yo ?_ | refine yaa ?_ | refine yc ?_ | refine yt ?_ | refine yab ?_ | refine yx ?_ | refine InB.off rfl ?_ | refine yaf ?_ | refine yac ?_ | refine yr mixed (by kernel_rfl) ?_))
  all_goals try (refine RQ.fin rfl rfl (congrArg bav ?_); rw [Bool.eq_iff_iff]; simp only [Bool.and_eq_true, qc, qf3, qce, beq_iff_eq]; grind)
  have hlen : a.attrs.length = b.attrs.length := by grind
  refine yao (α := Int) (fun i => ⟨[(2, .ptr 0 1 0 0), (3, .ptr 1 1 0 0), (31, iav (a.attrs.map Attr.iv).length), (32, iav i)], [⟨44, 16, [a.iv.map .imm]⟩, ⟨44, 16, [b.iv.map .imm]⟩]⟩) (fun i => 0 ≤ i ∧ i ≤ a.attrs.length ∧ a.attrs.take i.toNat = b.attrs.take i.toNat) (fun i => (a.attrs.length - i).toNat) 0 (yag 2 rfl (by repeat' (first | exact trivial | refine ⟨rfl, ?_⟩)) rfl rfl (Nat.zero_le _)) ⟨by omega, by omega, rfl⟩ ?_
  intro i ⟨h0, h1, h2⟩
  (repeat' (first | ((with_reducible show AL _ _ _ _ _); first | (refine yf tabs rfl ?_; try dsimp only [len, List.nil_append, List.cons_append]) | refine yn ?_ | (refine yq rfl rfl rfl (fun hc => ?_) (fun hc => ?_) <;> (fail_if_success (exact absurd hc (by decide))) <;> (try simp only [hsx] at hc) <;> (try first | omega | contradiction | (simp [qa] at hc; done))) | (refine AL.op rfl (yj rfl rfl rfl rfl rfl (by omega) (by omega)) ?_) | (refine AL.op rfl (ye tabs rfl rfl rfl rfl rfl rfl rfl (fun _ => rfl) (by decide) (by omega) (by omega)) ?_) | (refine AL.op rfl (ya6 rfl rfl rfl rfl eqt39 rfl rfl) ?_) | (refine AL.op rfl (ya6 rfl rfl rfl rfl eqt104 rfl rfl) ?_)) | ((with_reducible show DQ _ _ _ _ _ _); first | refine DQ.stepc (LS.val tabs rfl rfl rfl) rfl rfl rfl rfl rfl ?_ | refine DQ.stepc (yu rfl rfl) rfl rfl rfl rfl rfl ?_ | refine DQ.nilM (by kernel_rfl) ?_ | refine DQ.stepc (yad rfl rfl rfl rfl rfl rfl (by omega) (by omega)) rfl rfl rfl rfl rfl ?_ | refine DQ.stepc (yw tabs rfl rfl rfl rfl rfl rfl rfl rfl (fun _ => rfl) (by decide) (by omega) (by omega)) rfl rfl rfl rfl rfl ?_ | (refine DQ.gsplitE rfl rfl rfl (fun hc => ?_) (fun hc => ?_) <;> (fail_if_success (exact absurd hc (by decide))) <;> (try simp only [hsx] at hc) <;> (try first | omega | contradiction | (simp [qa] at hc; done))) | refine DQ.stepc (ybw rfl rfl rfl rfl rfl eqt39 rfl rfl) rfl rfl rfl rfl rfl ?_ | refine DQ.stepc (ybw rfl rfl rfl rfl rfl eqt104 rfl rfl) rfl rfl rfl rfl rfl ?_) | refine ym ?_ | refine ya ?_ | refine yb ?_ | refine yg ?_ | refine AW.block ?_ | refine yy ?_ | refine yi rfl ?_ | refine yh rfl ?_ | (refine yk rfl (fun hc => ?_) (fun hc => ?_) <;> (try simp only [hsx] at hc) <;> (try first | omega | contradiction | (simp [qa] at hc; done))) | refine yo ?_ | refine yaa ?_ | refine yc ?_ | refine yt ?_ | refine yab ?_ | refine yx ?_ | refine InB.off rfl ?_ | refine yaf ?_ | refine yac ?_ | refine yr mixed (by kernel_rfl) ?_))
  · rw [qu (p := a = b) (fun e => by subst e; simp [qa] at hc)]
    exact RQ.fin rfl rfl rfl
  · have e : atI a.attrs i = atI b.attrs i := by
      simp only [Bool.and_eq_true, qc] at hc
      rw [qim, qce]; grind
    refine yak (i + 1) (yag 2 rfl (by repeat' (first | exact trivial | refine ⟨rfl, ?_⟩)) rfl rfl (Nat.zero_le _)) ⟨by omega, by omega, ?_⟩ (by omega)
    rw [qg h0 (by assumption), qg h0 (by omega), h2, e]
  all_goals
    have ea : a.attrs = b.attrs := by
      rw [qo (by assumption), qo (by omega)] at h2
      exact h2
    refine RQ.fin rfl rfl (congrArg bav ?_)
    rw [Bool.eq_iff_iff]
    simp only [Bool.and_eq_true, Bool.and_eq_false_iff, qc, qi, qf3, qce, beq_iff_eq] at *
    grind
theorem qmx (f g : List Node) (hf : Fit f) : PureC Tryz.prog 16 [fav f, fav g] (bav (dec (f = g))) := by
  have hl := hf.len
  refine yp tabs Tryz.func16 32 [.tmp 4] rfl rfl rfl rfl rfl ?_; intro w0 X
  (repeat' (first | ((with_reducible show AL _ _ _ _ _); first | (refine yf tabs rfl ?_; try dsimp only [len, List.nil_append, List.cons_append]) | refine yn ?_ | (refine AL.op rfl (yj rfl rfl rfl rfl rfl (by omega) (by omega)) ?_) | (refine AL.op rfl (ye tabs rfl rfl rfl rfl rfl rfl rfl (fun _ => rfl) (by decide) (by omega) (by omega)) ?_)) | ((with_reducible show DQ _ _ _ _ _ _); first | refine DQ.stepc (LS.val tabs rfl rfl rfl) rfl rfl rfl rfl rfl ?_ | refine DQ.stepc (yu rfl rfl) rfl rfl rfl rfl rfl ?_ | refine DQ.nilM (by kernel_rfl) ?_ | refine DQ.stepc (yad rfl rfl rfl rfl rfl rfl (by omega) (by omega)) rfl rfl rfl rfl rfl ?_ | refine DQ.stepc (yw tabs rfl rfl rfl rfl rfl rfl rfl rfl (fun _ => rfl) (by decide) (by omega) (by omega)) rfl rfl rfl rfl rfl ?_) | refine ym ?_ | refine ya ?_ | refine yb ?_ | refine yg ?_ | refine AW.block ?_ | refine yy ?_ | refine yi rfl ?_ | refine yh rfl ?_ | (refine yk rfl (fun hc => ?_) (fun hc => ?_) <;> (try simp only [hsx] at hc) <;> (try first | omega | contradiction | (simp [qa] at hc; done))) | refine yo ?_ | refine yaa ?_ | refine yc ?_ | refine yt ?_ | refine yab ?_ | refine yx ?_ | refine InB.off rfl ?_ | refine yaf ?_ | refine yac ?_ | refine yr mixed (by kernel_rfl) ?_))
  · rw [qu (p := f = g) (fun e => by subst e; exact hc rfl)]
    exact RQ.fin rfl rfl rfl
  have hlen : f.length = g.length := by grind
  refine yao (α := Int) (fun i => ⟨[(2, .ptr 0 1 0 0), (3, .ptr 1 1 0 0), (15, iav (f.map Node.iv).length), (16, iav i)], [⟨24, 1, [[.imm (.sl (f.map Node.iv))]]⟩, ⟨24, 1, [[.imm (.sl (g.map Node.iv))]]⟩]⟩) (fun i => 0 ≤ i ∧ i ≤ f.length ∧ f.take i.toNat = g.take i.toNat) (fun i => (f.length - i).toNat) 0 (yag 2 rfl (by repeat' (first | exact trivial | refine ⟨rfl, ?_⟩)) rfl rfl (Nat.zero_le _)) ⟨by omega, by omega, rfl⟩ ?_
  intro i ⟨h0, h1, h2⟩
  (repeat' (first | ((with_reducible show AL _ _ _ _ _); first | (refine yf tabs rfl ?_; try dsimp only [len, List.nil_append, List.cons_append]) | refine yn ?_ | (refine AL.op rfl (yj rfl rfl rfl rfl rfl (by omega) (by omega)) ?_) | (refine AL.op rfl (ye tabs rfl rfl rfl rfl rfl rfl rfl (fun _ => rfl) (by decide) (by omega) (by omega)) ?_)) | ((with_reducible show DQ _ _ _ _ _ _); first | refine DQ.stepc (yai rfl rfl rfl rfl rfl (qdq (atI f i) (atI g i) (hf.atI i (by omega) (by omega))) rfl) rfl rfl rfl rfl rfl ?_ | refine DQ.stepc (LS.val tabs rfl rfl rfl) rfl rfl rfl rfl rfl ?_ | refine DQ.stepc (yu rfl rfl) rfl rfl rfl rfl rfl ?_ | refine DQ.nilM (by kernel_rfl) ?_ | refine DQ.stepc (yad rfl rfl rfl rfl rfl rfl (by omega) (by omega)) rfl rfl rfl rfl rfl ?_ | refine DQ.stepc (yw tabs rfl rfl rfl rfl rfl rfl rfl rfl (fun _ => rfl) (by decide) (by omega) (by omega)) rfl rfl rfl rfl rfl ?_) | refine ym ?_ | refine ya ?_ | refine yb ?_ | refine yg ?_ | refine AW.block ?_ | refine yy ?_ | refine yi rfl ?_ | refine yh rfl ?_ | (refine yk rfl (fun hc => ?_) (fun hc => ?_) <;> (try simp only [hsx] at hc) <;> (try first | omega | contradiction | (simp [qa] at hc; done))) | refine yo ?_ | refine yaa ?_ | refine yc ?_ | refine yt ?_ | refine yab ?_ | refine yx ?_ | refine InB.off rfl ?_ | refine yaf ?_ | refine yac ?_ | refine yr mixed (by kernel_rfl) ?_))
  · rw [qu (p := f = g) (qcf hc)]
    exact RQ.fin rfl rfl rfl
  · refine yak (i + 1) (yag 2 rfl (by repeat' (first | exact trivial | refine ⟨rfl, ?_⟩)) rfl rfl (Nat.zero_le _)) ⟨by omega, by omega, ?_⟩ (by omega)
    rw [qg h0 (by assumption), qg h0 (by omega), h2, hc]
  · rw [qo hc, qo (by omega)] at h2
    rw [qai (p := f = g) h2]; exact RQ.fin rfl rfl rfl
theorem qer (l : List Int) (hl : l.length ≤ 1000000000) : PureC Tryz.prog 106 [.imm (.sl (l.map u16))] (.imm (.sl (l.map u16))) := by
  refine yp tabs Tryz.func106 8 [.tmp 2] rfl rfl rfl rfl rfl ?_; intro w0 X
  (repeat' (first | ((with_reducible show AL _ _ _ _ _); first | (refine yf tabs rfl ?_; try dsimp only [len, List.nil_append, List.cons_append]) | refine ybm tabs rfl rfl rfl rfl rfl rfl rfl (fun b hb => ?_) | refine yae rfl (yam (ie := ti55) (b := ⟨55, 1, []⟩) tabs rfl rfl rfl rfl rfl rfl rfl rfl rfl rfl (SrcA.imm (rows := l.map u16) tabs rfl rfl rfl (by simp [u16, ti55])) (by simp [ti55, chunk]; omega) (by simp [chunk]; omega)) rfl ?_ | refine yn ?_) | refine ym ?_ | refine ya ?_ | refine yb ?_ | refine yg ?_ | refine yi rfl ?_ | refine yh rfl ?_ | (refine yk rfl (fun hc => ?_) (fun hc => ?_) <;> (try simp only [hsx] at hc) <;> (try first | omega | contradiction | (simp [qa] at hc; done))) | refine yo ?_ | refine yc ?_))
  · have e : l = [] := by simpa using hb hc
    subst e; exact RQ.fin rfl rfl rfl
  · exact yap rfl (Fz.os (b := ⟨55, 1, (l.map u16).map (·.map .imm)⟩) (rows := l.map u16) rfl (by simp) rfl)
theorem qcm (l : List Attr) (hl : l.length ≤ 1000000000) : PureC Tryz.prog 107 [.imm (.sl (l.map Attr.iv))] (.imm (.sl (l.map Attr.iv))) := by
  refine yp tabs Tryz.func107 8 [.tmp 2] rfl rfl rfl rfl rfl ?_; intro w0 X
  (repeat' (first | ((with_reducible show AL _ _ _ _ _); first | (refine yf tabs rfl ?_; try dsimp only [len, List.nil_append, List.cons_append]) | refine ybm tabs rfl rfl rfl rfl rfl rfl rfl (fun b hb => ?_) | refine yae rfl (yam (ie := ti104) (b := ⟨104, 4, []⟩) tabs rfl rfl rfl rfl rfl rfl rfl rfl rfl rfl (SrcA.imm (rows := l.map Attr.iv) tabs rfl rfl rfl (by simp [Attr.iv, ti104])) (by simp [ti104, chunk]; omega) (by simp [chunk]; omega)) rfl ?_ | refine yn ?_) | refine ym ?_ | refine ya ?_ | refine yb ?_ | refine yg ?_ | refine yi rfl ?_ | refine yh rfl ?_ | (refine yk rfl (fun hc => ?_) (fun hc => ?_) <;> (try simp only [hsx] at hc) <;> (try first | omega | contradiction | (simp [qa] at hc; done))) | refine yo ?_ | refine yc ?_))
  · have e : l = [] := by simpa using hb hc
    subst e; exact RQ.fin rfl rfl rfl
  · exact yap rfl (Fz.os (b := ⟨104, 4, (l.map Attr.iv).map (·.map .imm)⟩) (rows := l.map Attr.iv) rfl (by simp) rfl)
theorem qes (l : List Int) (hl : l.length ≤ 1000000000) : PureC Tryz.prog 108 [.imm (.sl (l.map i64))] (.imm (.sl (l.map i64))) := by
  refine yp tabs Tryz.func108 8 [.tmp 2] rfl rfl rfl rfl rfl ?_; intro w0 X
  (repeat' (first | ((with_reducible show AL _ _ _ _ _); first | (refine yf tabs rfl ?_; try dsimp only [len, List.nil_append, List.cons_append]) | refine ybm tabs rfl rfl rfl rfl rfl rfl rfl (fun b hb => ?_) | refine yae rfl (yam (ie := ti3) (b := ⟨3, 1, []⟩) tabs rfl rfl rfl rfl rfl rfl rfl rfl rfl rfl (SrcA.imm (rows := l.map i64) tabs rfl rfl rfl (by simp [i64, ti3])) (by simp [ti3, chunk]; omega) (by simp [chunk]; omega)) rfl ?_ | refine yn ?_) | refine ym ?_ | refine ya ?_ | refine yb ?_ | refine yg ?_ | refine yi rfl ?_ | refine yh rfl ?_ | (refine yk rfl (fun hc => ?_) (fun hc => ?_) <;> (try simp only [hsx] at hc) <;> (try first | omega | contradiction | (simp [qa] at hc; done))) | refine yo ?_ | refine yc ?_))
  · have e : l = [] := by simpa using hb hc
    subst e; exact RQ.fin rfl rfl rfl
  · exact yap rfl (Fz.os (b := ⟨3, 1, (l.map i64).map (·.map .imm)⟩) (rows := l.map i64) rfl (by simp) rfl)
theorem qio : PureC Tryz.prog 108 [.imm (.sl [])] .nocap := by
  refine yp tabs Tryz.func108 8 [.tmp 2] rfl rfl rfl rfl rfl ?_; intro w0 X
  (repeat' (first | ((with_reducible show AL _ _ _ _ _); first | refine yae rfl (ybp tabs rfl rfl rfl rfl rfl rfl) rfl ?_ | (refine yf tabs rfl ?_; try dsimp only [len, List.nil_append, List.cons_append]) | refine ybm tabs rfl rfl rfl rfl rfl rfl rfl (fun b hb => ?_) | refine yae rfl (ybc tabs rfl rfl rfl rfl rfl rfl (SrcA.imm (rows := []) tabs rfl rfl rfl (by simp))) rfl ?_ | refine yn ?_) | refine ym ?_ | refine ya ?_ | refine yb ?_ | refine yg ?_ | refine yi rfl ?_ | refine yh rfl ?_ | (refine yk rfl (fun hc => ?_) (fun hc => ?_) <;> (try simp only [hsx] at hc) <;> (try first | omega | contradiction | (simp [qa] at hc; done))) | refine yo ?_ | refine yc ?_))
  · exact yap rfl fun γ κ a W x hC hr => by cases hr; exact .nocap _
  · exact yap rfl (Fz.im rfl)
theorem qa0 (n : Node) (hn : FitN n) : PureC Tryz.prog 94 [n.av] n.av := by
  refine yp tabs Tryz.func94 16 [.cell 2 44] rfl rfl rfl rfl rfl ?_; intro w0 X
  (repeat' (first | ((with_reducible show AL _ _ _ _ _); first | (refine yf tabs rfl ?_; try dsimp only [len, List.nil_append, List.cons_append]) | refine AL.op rfl (yd rfl rfl rfl rfl (qer n.data hn.data) rfl) ?_ | refine AL.op rfl (yd rfl rfl rfl rfl (qcm n.attrs hn.attrs) rfl) ?_ | refine AL.op rfl (yd rfl rfl rfl rfl (qes n.kids hn.kids) rfl) ?_ | refine yn ?_) | refine ym ?_ | refine ya ?_ | refine yb ?_ | refine yg ?_ | refine yo ?_ | refine yc ?_))
  exact RQ.fin rfl rfl rfl
def plainMk (c : Change) : Change := { c0 with kind := c.kind, node := c.node, made := c.made }
theorem qf6 (c : Change) : PureC Tryz.prog 110 [c.av] (plainMk c).av := by
  refine yp tabs Tryz.func110 10 [.cell 2 58] rfl rfl rfl rfl rfl ?_; intro w0 X
  (repeat' (first | ((with_reducible show AL _ _ _ _ _); first | (refine yf tabs rfl ?_; try dsimp only [len, List.nil_append, List.cons_append]) | refine yn ?_) | refine ym ?_ | refine ya ?_ | refine yb ?_ | refine yg ?_ | refine yo ?_ | refine yc ?_))
  exact RQ.fin rfl rfl rfl
def plainLn (c : Change) : Change := { c0 with kind := c.kind, node := c.node, parent := c.parent, index := c.index }
theorem qcg (c : Change) : PureC Tryz.prog 112 [c.av] (plainLn c).av := by
  refine yp tabs Tryz.func112 12 [.cell 2 58] rfl rfl rfl rfl rfl ?_; intro w0 X
  (repeat' (first | ((with_reducible show AL _ _ _ _ _); first | (refine yf tabs rfl ?_; try dsimp only [len, List.nil_append, List.cons_append]) | refine yn ?_) | refine ym ?_ | refine ya ?_ | refine yb ?_ | refine yg ?_ | refine yo ?_ | refine yc ?_))
  exact RQ.fin rfl rfl rfl
theorem qip (n : Node) (hn : FitN n) : PureC Tryz.prog 99 [n.av] n.av := by
  refine yp tabs Tryz.func99 16 [.cell 2 44] rfl rfl rfl rfl rfl ?_; intro w0 X
  (repeat' (first | ((with_reducible show AL _ _ _ _ _); first | (refine yf tabs rfl ?_; try dsimp only [len, List.nil_append, List.cons_append]) | refine yae rfl (yax (ie := ti55) tabs rfl rfl rfl rfl rfl (by decide) rfl (SrcA.imm (rows := (n.data.map u16)) tabs rfl rfl rfl (by simp [i64, u16, Attr.iv, ti3, ti55, ti104])) (by have := hn.data; have := hn.attrs; have := hn.kids; simp [ti3, ti55, ti104]; omega) (by have := hn.data; have := hn.attrs; have := hn.kids; simp; omega)) rfl ?_ | refine yae rfl (yax (ie := ti104) tabs rfl rfl rfl rfl rfl (by decide) rfl (SrcA.imm (rows := n.attrs.map Attr.iv) tabs rfl rfl rfl (by simp [i64, u16, Attr.iv, ti3, ti55, ti104])) (by have := hn.data; have := hn.attrs; have := hn.kids; simp [ti3, ti55, ti104]; omega) (by have := hn.data; have := hn.attrs; have := hn.kids; simp; omega)) rfl ?_ | refine yae rfl (yax (ie := ti3) tabs rfl rfl rfl rfl rfl (by decide) rfl (SrcA.imm (rows := n.kids.map i64) tabs rfl rfl rfl (by simp [i64, u16, Attr.iv, ti3, ti55, ti104])) (by have := hn.data; have := hn.attrs; have := hn.kids; simp [ti3, ti55, ti104]; omega) (by have := hn.data; have := hn.attrs; have := hn.kids; simp; omega)) rfl ?_ | refine yn ?_) | refine ym ?_ | refine ya ?_ | refine yb ?_ | refine yg ?_ | refine yo ?_ | refine yc ?_))
  exact yap rfl (ybs (.cons (Fz.im rfl) (.cons (Fz.im rfl) (.cons (Fz.im rfl) (.cons (Fz.im rfl) (.cons (Fz.im rfl) (.cons (Fz.im rfl) (.cons (Fz.os (b := ⟨55, 1, (n.data.map u16).map (·.map .imm)⟩) (rows := n.data.map u16) rfl rfl rfl) (.cons (Fz.os (b := ⟨104, 4, (n.attrs.map Attr.iv).map (·.map .imm)⟩) (rows := n.attrs.map Attr.iv) rfl rfl rfl) (.cons (Fz.im rfl) (.cons (Fz.os (b := ⟨3, 1, (n.kids.map i64).map (·.map .imm)⟩) (rows := n.kids.map i64) rfl rfl rfl) (.cons (Fz.im rfl) (.cons (Fz.im rfl) (.cons (Fz.im rfl) (.cons (Fz.im rfl) (.cons (Fz.im rfl) (.cons (Fz.im rfl) .nil)))))))))))))))))
structure FitC (c : Change) : Prop where
  data : c.data.length ≤ 1000000000
  made : FitN c.made
  added : c.added.length ≤ 1000000000
  removed : c.removed.length ≤ 1000000000
theorem qf7 (c : Change) (hc : FitC c) : PureC Tryz.prog 87 [c.av] c.av := by
  refine yp tabs Tryz.func87 20 [.cell 2 58] rfl rfl rfl rfl rfl ?_; intro w0 X
  (repeat' (first | ((with_reducible show AL _ _ _ _ _); first | (refine yf tabs rfl ?_; try dsimp only [len, List.nil_append, List.cons_append]) | refine yae rfl (yax (ie := ti55) tabs rfl rfl rfl rfl rfl (by decide) rfl (SrcA.imm (rows := c.data.map u16) tabs rfl rfl rfl (by simp [i64, u16, ti3, ti55])) (by have := hc.data; have := hc.added; have := hc.removed; simp [ti3, ti55]; omega) (by have := hc.data; have := hc.added; have := hc.removed; simp; omega)) rfl ?_ | refine yae rfl (yax (ie := ti3) tabs rfl rfl rfl rfl rfl (by decide) rfl (SrcA.imm (rows := c.added.map i64) tabs rfl rfl rfl (by simp [i64, u16, ti3, ti55])) (by have := hc.data; have := hc.added; have := hc.removed; simp [ti3, ti55]; omega) (by have := hc.data; have := hc.added; have := hc.removed; simp; omega)) rfl ?_ | refine yae rfl (yax (ie := ti3) tabs rfl rfl rfl rfl rfl (by decide) rfl (SrcA.imm (rows := c.removed.map i64) tabs rfl rfl rfl (by simp [i64, u16, ti3, ti55])) (by have := hc.data; have := hc.added; have := hc.removed; simp [ti3, ti55]; omega) (by have := hc.data; have := hc.added; have := hc.removed; simp; omega)) rfl ?_ | refine AL.op rfl (yd rfl rfl rfl rfl (qip c.made hc.made) rfl) ?_ | refine yn ?_) | refine ym ?_ | refine ya ?_ | refine yb ?_ | refine yg ?_ | refine yo ?_ | refine yc ?_))
  exact yap rfl (ybs (.cons (Fz.im rfl) (.cons (Fz.im rfl) (.cons (Fz.im rfl) (.cons (Fz.im rfl) (.cons (Fz.im rfl) (.cons (Fz.im rfl) (.cons (Fz.im rfl) (.cons (Fz.im rfl) (.cons (Fz.os (b := ⟨55, 1, (c.data.map u16).map (·.map .imm)⟩) (rows := c.data.map u16) rfl rfl rfl) (.cons (Fz.im rfl) (.cons (Fz.im rfl) (.cons (Fz.im rfl) (.cons (Fz.im rfl) (.cons (Fz.im rfl) (.cons (Fz.im rfl) (.cons (Fz.im rfl) (.cons (Fz.im rfl) (.cons (Fz.im rfl) (.cons (Fz.im rfl) (.cons (Fz.im rfl) (.cons (Fz.im rfl) (.cons (Fz.im rfl) (.cons (Fz.im rfl) (.cons (Fz.im rfl) (.cons (Fz.im rfl) (.cons (Fz.im rfl) (.cons (Fz.im rfl) (.cons (Fz.im rfl) (.cons (Fz.im rfl) (.cons (Fz.im rfl) (.cons (Fz.im rfl) (.cons (Fz.im rfl) (.cons (Fz.os (b := ⟨3, 1, (c.added.map i64).map (·.map .imm)⟩) (rows := c.added.map i64) rfl rfl rfl) (.cons (Fz.os (b := ⟨3, 1, (c.removed.map i64).map (·.map .imm)⟩) (rows := c.removed.map i64) rfl rfl rfl) (.cons (Fz.im rfl) (.cons (Fz.im rfl) .nil)))))))))))))))))))))))))))))))))))))
theorem qiq (l : List Int) (hl : l.length ≤ 1000000000) (hne : l ≠ []) : GenC Tryz.prog 108 [⟨3, 1, []⟩] [.imm (.sl (l.map i64))] (.os 0 l.length) [⟨3, 1, l.map cI⟩] := by
  have e : (l.map i64).map (·.map AV.imm) = l.map cI := by simp [cI, i64, iav]
  have e1 : ((l.map i64).map (·.map AV.imm)).length = l.length := by simp
  refine yah tabs Tryz.func108 8 [.tmp 2] rfl rfl rfl rfl rfl ?_; intro w0 X γ κ
  (repeat' (first | ((with_reducible show AL _ _ _ _ _); first | refine yae rfl (ybp tabs rfl rfl rfl rfl rfl rfl) rfl ?_ | (refine yf tabs rfl ?_; try dsimp only [len, List.nil_append, List.cons_append]) | refine ybm tabs rfl rfl rfl rfl rfl rfl rfl (fun b hb => ?_) | refine yae rfl (yas 0 (ie := ti3) tabs rfl rfl rfl rfl rfl (by decide) rfl rfl rfl (rows2 := (l.map i64).map (·.map AV.imm)) (by simpa using hne) (SrcA.imm (rows := l.map i64) tabs rfl rfl rfl (by simp [i64, ti3])) (by simp [ti3]; omega) (by simp; omega)) rfl ?_ | refine yn ?_) | refine ym ?_ | refine ya ?_ | refine yb ?_ | refine yg ?_ | refine yi rfl ?_ | refine yh rfl ?_ | (refine yk rfl (fun hc => ?_) (fun hc => ?_) <;> (try simp only [hsx] at hc) <;> (try first | omega | contradiction | (simp [qa] at hc; done))) | refine yo ?_ | refine yc ?_))
  · have e : l = [] := by simpa using hb hc
    exact absurd e hne
  · refine yal 1 rfl ?_ ?_ rfl ?_ (by simp [cxG])
    · show AV.os 0 ((l.map i64).map (·.map AV.imm)).length = _
      rw [e1]
    · show _ = [(⟨3, 1, (l.map i64).map (·.map AV.imm)⟩ : Blk)]
      rw [e]
    · exact (by simp only [List.all_cons, List.all_nil, List.all_map, Function.comp_def, cI, cB, iav, bav, AV.sc1, AV.sc0, Bool.and_true, Bool.and_self, qh]; try rfl)
def nodeRow (n : Node) (k : AV) : List AV := [kav n.kind, sav n.name.sp, sav n.name.pf, sav n.name.lc, sav n.pub, sav n.sys, .imm (.sl (n.data.map u16)), .imm (.sl (n.attrs.map Attr.iv)), iav n.parent, k, iav n.doc, iav n.host, iav n.shadow, kav n.mode, bav n.manual, bav n.html]
def rowS (n : Node) : List AV := n.iv.map .imm
theorem cloneI0' {l : List Int} (h : l = []) : PureC Tryz.prog 108 [.imm (.sl (l.map i64))] .nocap := by subst h; exact qio
theorem qf8 (n : Node) (hn : FitN n) (hk : n.kids = []) : PureC Tryz.prog 94 [n.av] (.agg (nodeRow n .nocap)) := by
  refine yp tabs Tryz.func94 16 [.cell 2 44] rfl rfl rfl rfl rfl ?_; intro w0 X
  (repeat' (first | ((with_reducible show AL _ _ _ _ _); first | (refine yf tabs rfl ?_; try dsimp only [len, List.nil_append, List.cons_append]) | refine AL.op rfl (yd rfl rfl rfl rfl (qer n.data hn.data) rfl) ?_ | refine AL.op rfl (yd rfl rfl rfl rfl (qcm n.attrs hn.attrs) rfl) ?_ | refine AL.op rfl (yd rfl rfl rfl rfl (cloneI0' hk) rfl) ?_ | refine yn ?_) | refine ym ?_ | refine ya ?_ | refine yb ?_ | refine yg ?_ | refine yo ?_ | refine yc ?_))
  exact yap rfl (Fz.im rfl)
theorem qf9 (n : Node) (hn : FitN n) (hk : n.kids ≠ []) : GenC Tryz.prog 94 [⟨3, 1, []⟩] [n.av] (.agg (nodeRow n (.os 0 n.kids.length))) [⟨3, 1, n.kids.map cI⟩] := by
  have eR : ∀ m : Nat, (n.kids.map cI).map (·.map (ren1 (rho [0] m))) = n.kids.map cI := by
    intro m; simp [cI, iav, ren1, ren0]
  refine yah tabs Tryz.func94 16 [.cell 2 44] rfl rfl rfl rfl rfl ?_; intro w0 X γ κ
  (repeat' (first | ((with_reducible show AL _ _ _ _ _); first | (refine yf tabs rfl ?_; try dsimp only [len, List.nil_append, List.cons_append]) | refine AL.op rfl (yd rfl rfl rfl rfl (qer n.data hn.data) rfl) ?_ | refine AL.op rfl (yd rfl rfl rfl rfl (qcm n.attrs hn.attrs) rfl) ?_ | refine yz [0] 3 rfl rfl rfl rfl rfl (caps := []) rfl (qiq n.kids hn.kids hk) rfl rfl rfl rfl rfl rfl (by simp only [List.all_cons, List.all_nil, List.all_map, Function.comp_def, cI, cB, iav, bav, AV.sc1, AV.sc0, Bool.and_true, Bool.and_self, qh]; try rfl) rfl (hpA := [⟨3, 1, n.kids.map cI⟩]) (by simp only [List.map_cons, List.map_nil, renB, eR]) rfl rfl ?_ | refine yn ?_) | refine ym ?_ | refine ya ?_ | refine yb ?_ | refine yg ?_ | refine yo ?_ | refine yc ?_))
  refine yal 1 rfl rfl rfl rfl ?_ (by simp [cxG])
  exact (by simp only [List.all_cons, List.all_nil, List.all_map, Function.comp_def, cI, cB, iav, bav, AV.sc1, AV.sc0, Bool.and_true, Bool.and_self, qh]; try rfl)
def AV.dat : AV → Bool
  | .imm _ => true
  | .nocap => true
  | _ => false
theorem qkt {v : AV} (h : v.dat = true) : v.cell = true := by cases v <;> first | rfl | (cases h; done)
theorem qmy {v : AV} (k : Nat) (h : v.dat = true) : v.sc1 k = true := by cases v <;> first | rfl | (cases h; done)
theorem qir {T : List (List AV)} (h : T.all (fun r => r.all AV.dat) = true) (k : Nat) : T.all (fun r => r.all (AV.sc1 k)) = true := by
  simp only [List.all_eq_true] at h ⊢
  exact fun r hr c hc => qmy k (h r hr c hc)
theorem take_set {α : Type} [Inhabited α] (T : List α) (z : α) (n : Nat) (i : Int) (hT : T.length = n) (h0 : 0 ≤ i) (h1 : i < n) : (T.take i.toNat ++ List.replicate (n - i.toNat) z).set i.toNat (atI T i) = T.take (i + 1).toNat ++ List.replicate (n - (i + 1).toNat) z := by
  have hl : (T.take i.toNat).length = i.toNat := by rw [List.length_take]; omega
  rw [List.set_append, if_neg (by omega), hl, Nat.sub_self, show n - i.toNat = (n - (i + 1).toNat) + 1 by omega, List.replicate_succ, List.set_cons_zero, qg h0 (by omega), List.append_assoc]
  rfl
theorem qaf {α : Type} (T : List α) (z : α) (n : Nat) (i : Int) (hT : T.length = n) (h0 : 0 ≤ i) (h1 : i ≤ n) : (T.take i.toNat ++ List.replicate (n - i.toNat) z).length = n := by
  simp only [List.length_append, List.length_take, List.length_replicate]; omega
theorem qdr {α : Type} (T : List α) (z : α) (n : Nat) (i : Int) (hT : T.length = n) (h0 : 0 ≤ i) (h1 : i < n) : (T.take i.toNat ++ List.replicate (n - i.toNat) z)[i.toNat]? = some z := by
  rw [List.getElem?_append_right (by rw [List.length_take]; omega), List.length_take, List.getElem?_replicate, if_pos (by omega)]
theorem qa9 {T : List (List AV)} (n : Nat) (i : Int) (k : Nat) (h : T.all (fun r => r.all (AV.sc1 k)) = true) : ((T.take i.toNat ++ List.replicate (n - i.toNat) ti44.zero).all fun r => r.all (AV.sc1 k)) = true := by
  rw [List.all_append, Bool.and_eq_true]
  constructor
  · simp only [List.all_eq_true] at h ⊢
    exact fun r hr => h r (List.mem_of_mem_take hr)
  · simp only [List.all_eq_true]
    intro r hr
    rw [(List.mem_replicate.1 hr).2]
    exact List.all_eq_true.1 rfl
theorem qet (f : List Node) (T : List (List AV)) (hf : Fit f) (h1 : 0 < f.length) (hT : T.length = f.length) (hTi : T.all (fun r => r.all AV.dat) = true) (hTl : ∀ r ∈ T, r.length = 16) (hcp : ∀ i : Int, 0 ≤ i → i < f.length → PureC Tryz.prog 94 [(atI f i).av] (.agg (atI T i))) : GenC Tryz.prog 70 [⟨44, 16, []⟩] [fav f] (.agg [.os 0 f.length]) [⟨44, 16, T⟩] := by
  have hl := hf.len
  have hm : (List.map Node.iv f).length = f.length := List.length_map _
  refine yah tabs Tryz.func70 27 [.cell 2 24] rfl rfl rfl rfl rfl ?_; intro w0 X γ κ
  (repeat' (first | ((with_reducible show AL _ _ _ _ _); first | (refine yf tabs rfl ?_; try dsimp only [len, List.nil_append, List.cons_append]) | refine yae rfl (ybq 0 tabs rfl rfl rfl rfl rfl rfl rfl rfl rfl (by omega) (by omega) (by omega) rfl (by simp only [ti44]; omega)) rfl ?_ | refine yn ?_ | (refine AL.op rfl (yj rfl rfl rfl rfl rfl (by omega) (by omega)) ?_) | (refine AL.op rfl (ye tabs rfl rfl rfl rfl rfl rfl rfl (fun _ => rfl) (by decide) (by omega) (by omega)) ?_)) | ((with_reducible show DQ _ _ _ _ _ _); first | refine DQ.stepc (LS.val tabs rfl rfl rfl) rfl rfl rfl rfl rfl ?_ | refine DQ.stepc (yu rfl rfl) rfl rfl rfl rfl rfl ?_ | refine DQ.nilM (by kernel_rfl) ?_ | refine DQ.stepc (yad rfl rfl rfl rfl rfl rfl (by omega) (by omega)) rfl rfl rfl rfl rfl ?_ | refine DQ.stepc (yw tabs rfl rfl rfl rfl rfl rfl rfl rfl (fun _ => rfl) (by decide) (by omega) (by omega)) rfl rfl rfl rfl rfl ?_) | refine ym ?_ | refine ya ?_ | refine yb ?_ | refine yg ?_ | refine AW.block ?_ | refine yy ?_ | refine yi rfl ?_ | refine yh rfl ?_ | (refine yk rfl (fun hc => ?_) (fun hc => ?_) <;> (try simp only [hsx] at hc) <;> (try first | omega | contradiction | (simp [qa] at hc; done))) | refine yo ?_ | refine yaa ?_ | refine yc ?_ | refine yt ?_ | refine yab ?_ | refine yx ?_ | refine InB.off rfl ?_ | refine yaf ?_ | refine yac ?_ | refine yr mixed (by kernel_rfl) ?_))
  refine yao (α := Int) (fun i => ⟨[(2, .ptr 2 1 0 0), (3, .ptr 3 1 0 0), (12, .imm (.sl (f.map Node.iv))), (13, iav (List.map Node.iv f).length), (14, iav i)], [⟨44, 16, T.take i.toNat ++ List.replicate (f.length - i.toNat) ti44.zero⟩, ⟨24, 1, [[.imm (.sl (f.map Node.iv))]]⟩, ⟨24, 1, [[.nils]]⟩, ⟨24, 1, [[.os 0 f.length]]⟩]⟩) (fun i => 0 ≤ i ∧ i ≤ f.length) (fun i => (f.length - i).toNat) 0 (yag 4 (by rw [← hm]; rfl) (by repeat' (first | exact trivial | refine ⟨rfl, ?_⟩)) rfl (by simp only [qax]; exact ⟨qa9 _ _ _ (qir hTi _), rfl, rfl, rfl⟩) (by simp [cxG])) ⟨by omega, by omega⟩ ?_
  intro i ⟨h0, h2⟩
  (repeat' (first | ((with_reducible show AL _ _ _ _ _); first | (refine yf tabs rfl ?_; try dsimp only [len, List.nil_append, List.cons_append]) | refine yn ?_ | (refine AL.op rfl (yj rfl rfl rfl rfl rfl (by omega) (by omega)) ?_) | (refine AL.op rfl (ye tabs rfl rfl rfl rfl rfl rfl rfl (fun _ => rfl) (by decide) (by omega) (by omega)) ?_)) | ((with_reducible show DQ _ _ _ _ _ _); first | refine DQ.stepc (yai rfl rfl rfl rfl rfl (hcp i h0 (by omega)) rfl) rfl rfl rfl rfl rfl ?_ | refine DQ.stepc (yar (b := ⟨44, 16, T.take i.toNat ++ List.replicate (f.length - i.toNat) ti44.zero⟩) tabs rfl rfl rfl rfl rfl rfl rfl rfl rfl (qaf _ _ _ _ hT h0 h2).symm rfl (by omega) (by omega)) rfl rfl rfl rfl rfl ?_ | refine DQ.stepc (LS.store (i := ti44) (v := .agg (atI T i)) (ty := 44) (sz := 16) (rows := T.take i.toNat ++ List.replicate (f.length - i.toNat) ti44.zero) tabs rfl rfl rfl rfl rfl rfl rfl (qaf _ _ _ _ hT h0 h2).symm (hTl _ (qau h0 (by omega))) (by simp only [avCells, List.all_eq_true]; exact fun c hc => qkt (List.all_eq_true.1 (List.all_eq_true.1 hTi _ (qau h0 (by omega))) c hc)) (by decide) (qdr _ _ _ _ hT h0 (by omega))) rfl rfl rfl rfl rfl ?_ | refine DQ.stepc (LS.val tabs rfl rfl rfl) rfl rfl rfl rfl rfl ?_ | refine DQ.stepc (yu rfl rfl) rfl rfl rfl rfl rfl ?_ | refine DQ.nilM (by kernel_rfl) ?_ | refine DQ.stepc (yad rfl rfl rfl rfl rfl rfl (by omega) (by omega)) rfl rfl rfl rfl rfl ?_ | refine DQ.stepc (yw tabs rfl rfl rfl rfl rfl rfl rfl rfl (fun _ => rfl) (by decide) (by omega) (by omega)) rfl rfl rfl rfl rfl ?_) | refine ym ?_ | refine ya ?_ | refine yb ?_ | refine yg ?_ | refine AW.block ?_ | refine yy ?_ | refine yi rfl ?_ | refine yh rfl ?_ | (refine yk rfl (fun hc => ?_) (fun hc => ?_) <;> (try simp only [hsx] at hc) <;> (try first | omega | contradiction | (simp [qa] at hc; done))) | refine yo ?_ | refine yaa ?_ | refine yc ?_ | refine yt ?_ | refine yab ?_ | refine yx ?_ | refine InB.off rfl ?_ | refine yaf ?_ | refine yac ?_ | refine yr mixed (by kernel_rfl) ?_))
  · refine yak (i + 1) (yag 4 (by rw [← take_set T ti44.zero f.length i hT h0 (by assumption)]; rfl) (by repeat' (first | exact trivial | refine ⟨rfl, ?_⟩)) rfl (by simp only [qax]; exact ⟨qa9 _ _ _ (qir hTi _), rfl, rfl, rfl⟩) (by simp [cxG])) ⟨by omega, by omega⟩ (by omega)
  · have e : T.take i.toNat ++ List.replicate (f.length - i.toNat) ti44.zero = T := by
      rw [qo (by omega), show f.length - i.toNat = 0 by omega]; simp
    refine yal 1 rfl rfl (by rw [e]; rfl) rfl ?_ (by simp [cxG])
    simp only [List.all_cons, List.all_nil, Bool.and_true]
    exact qir hTi _
def rowsK (f : List Node) (p : Int) (k : AV) : List (List AV) := (f.map rowS).set p.toNat (nodeRow (atI f p) k)
theorem qag (f : List Node) (p : Int) (k : AV) : (rowsK f p k).length = f.length := by unfold rowsK; simp
theorem qch {α β : Type} [Inhabited α] [Inhabited β] (g : α → β) (l : List α) (i : Int) (h0 : 0 ≤ i) (h1 : i < l.length) : atI (l.map g) i = g (atI l i) := by
  have e1 := qat h0 h1
  have e2 := qat (xs := l.map g) h0 (by simpa using h1)
  rw [List.getElem?_map, e1] at e2
  exact (Option.some.inj e2).symm
theorem qz (f : List Node) (p : Int) (k : AV) (hp : 0 ≤ p) (hp1 : p < f.length) (i : Int) (h0 : 0 ≤ i) (h1 : i < f.length) : atI (rowsK f p k) i = if i = p then nodeRow (atI f p) k else rowS (atI f i) := by
  unfold rowsK
  rw [qt _ _ _ _ hp (by simpa using hp1) h0, qch _ _ _ h0 h1]
theorem qds {f : List Node} {p : Int} {k : AV} {r : List AV} (h : r ∈ rowsK f p k) : r = nodeRow (atI f p) k ∨ ∃ n ∈ f, r = rowS n := by
  unfold rowsK at h
  rcases List.mem_or_eq_of_mem_set h with h | h
  · obtain ⟨n, h1, h2⟩ := List.mem_map.1 h
    exact .inr ⟨n, h1, h2.symm⟩
  · exact .inl h
theorem qba (n : Node) (k : Nat) : (rowS n).all (AV.sc1 k) = true := rfl
theorem q6 (f : List Node) (p : Int) (k : AV) (m : Nat) (h : k.sc1 m = true) : (rowsK f p k).all (fun r => r.all (AV.sc1 m)) = true := by
  rw [List.all_eq_true]
  intro r hr
  rcases qds hr with rfl | ⟨n, _, rfl⟩
  · unfold nodeRow
    simp only [List.all_cons, List.all_nil, h]
    rfl
  · exact qba n m
theorem qfi (f : List Node) (p : Int) (hf : Fit f) (hp : 0 ≤ p) (hp1 : p < f.length) (hk : (atI f p).kids ≠ []) : GenC Tryz.prog 70 [⟨44, 16, []⟩, ⟨3, 1, []⟩] [fav f] (.agg [.os 0 f.length]) [⟨44, 16, rowsK f p (.os 1 (atI f p).kids.length)⟩, ⟨3, 1, (atI f p).kids.map cI⟩] := by
  have hl := hf.len
  have hm : (List.map Node.iv f).length = f.length := List.length_map _
  obtain ⟨T, hT0⟩ : ∃ T, T = rowsK f p (.os 1 (atI f p).kids.length) := ⟨_, rfl⟩
  rw [← hT0]
  have hT : T.length = f.length := by rw [hT0, qag]
  have hat : ∀ i : Int, 0 ≤ i → i < f.length → atI T i = if i = p then nodeRow (atI f p) (.os 1 (atI f p).kids.length) else rowS (atI f i) := fun i h0 h1 => by rw [hT0]; exact qz f p _ hp hp1 i h0 h1
  have hsc : ∀ k, 2 ≤ k → T.all (fun r => r.all (AV.sc1 k)) = true := fun k hk => by
    rw [hT0]; exact q6 f p _ k (by simp only [AV.sc1, AV.sc0, Nat.blt_eq]; omega)
  clear hT0
  obtain ⟨K, hK⟩ : ∃ K : Int → List Int, ∀ i, K i = if p < i then (atI f p).kids else [] := ⟨fun i => if p < i then (atI f p).kids else [], fun _ => rfl⟩
  have eR : ∀ m : Nat, ((atI f p).kids.map cI).map (·.map (ren1 (rho [1] m))) = (atI f p).kids.map cI := by
    intro m; simp [cI, iav, ren1, ren0]
  have hz : ∀ k, (ti44.zero.all (AV.sc1 k)) = true := fun k => rfl
  refine yah tabs Tryz.func70 27 [.cell 2 24] rfl rfl rfl rfl rfl ?_; intro w0 X γ κ
  (repeat' (first | ((with_reducible show AL _ _ _ _ _); first | (refine yf tabs rfl ?_; try dsimp only [len, List.nil_append, List.cons_append]) | refine yae rfl (ybq 0 tabs rfl rfl rfl rfl rfl rfl rfl rfl rfl (by omega) (by omega) (by omega) rfl (by simp only [ti44]; omega)) rfl ?_ | refine yn ?_ | (refine AL.op rfl (yj rfl rfl rfl rfl rfl (by omega) (by omega)) ?_) | (refine AL.op rfl (ye tabs rfl rfl rfl rfl rfl rfl rfl (fun _ => rfl) (by decide) (by omega) (by omega)) ?_)) | ((with_reducible show DQ _ _ _ _ _ _); first | refine DQ.stepc (LS.val tabs rfl rfl rfl) rfl rfl rfl rfl rfl ?_ | refine DQ.stepc (yu rfl rfl) rfl rfl rfl rfl rfl ?_ | refine DQ.nilM (by kernel_rfl) ?_ | refine DQ.stepc (yad rfl rfl rfl rfl rfl rfl (by omega) (by omega)) rfl rfl rfl rfl rfl ?_ | refine DQ.stepc (yw tabs rfl rfl rfl rfl rfl rfl rfl rfl (fun _ => rfl) (by decide) (by omega) (by omega)) rfl rfl rfl rfl rfl ?_) | refine ym ?_ | refine ya ?_ | refine yb ?_ | refine yg ?_ | refine AW.block ?_ | refine yy ?_ | refine yi rfl ?_ | refine yh rfl ?_ | (refine yk rfl (fun hc => ?_) (fun hc => ?_) <;> (try simp only [hsx] at hc) <;> (try first | omega | contradiction | (simp [qa] at hc; done))) | refine yo ?_ | refine yaa ?_ | refine yc ?_ | refine yt ?_ | refine yab ?_ | refine yx ?_ | refine InB.off rfl ?_ | refine yaf ?_ | refine yac ?_ | refine yr mixed (by kernel_rfl) ?_))
  refine yao (α := Int) (fun i => ⟨[(2, .ptr 3 1 0 0), (3, .ptr 4 1 0 0), (12, .imm (.sl (f.map Node.iv))), (13, iav (List.map Node.iv f).length), (14, iav i)], [⟨44, 16, T.take i.toNat ++ List.replicate (f.length - i.toNat) ti44.zero⟩, ⟨3, 1, (K i).map cI⟩, ⟨24, 1, [[.imm (.sl (f.map Node.iv))]]⟩, ⟨24, 1, [[.nils]]⟩, ⟨24, 1, [[.os 0 f.length]]⟩]⟩) (fun i => 0 ≤ i ∧ i ≤ f.length) (fun i => (f.length - i).toNat) 0 (yag 5 (by rw [hK, if_neg (by omega), ← hm]; rfl) (by repeat' (first | exact trivial | refine ⟨rfl, ?_⟩)) rfl (by simp only [qax]; exact ⟨qa9 _ _ _ (hsc _ (by omega)), (by simp only [List.all_cons, List.all_nil, List.all_map, Function.comp_def, cI, cB, iav, bav, AV.sc1, AV.sc0, Bool.and_true, Bool.and_self, qh]; try rfl), rfl, rfl, rfl⟩) (by simp [cxG])) ⟨by omega, by omega⟩ ?_
  intro i ⟨h0, h2⟩
  by_cases hip : i = p
  · subst hip
    have e1 : K i = [] := by rw [hK, if_neg (by omega)]
    have e2 : K (i + 1) = (atI f i).kids := by rw [hK, if_pos (by omega)]
    have e3 := hat i hp hp1
    rw [if_pos rfl] at e3
    rw [e1]
    (repeat' (first | ((with_reducible show AL _ _ _ _ _); first | (refine yf tabs rfl ?_; try dsimp only [len, List.nil_append, List.cons_append]) | refine yn ?_ | (refine AL.op rfl (yj rfl rfl rfl rfl rfl (by omega) (by omega)) ?_) | (refine AL.op rfl (ye tabs rfl rfl rfl rfl rfl rfl rfl (fun _ => rfl) (by decide) (by omega) (by omega)) ?_)) | ((with_reducible show DQ _ _ _ _ _ _); first | refine DQ.stepc (LS.callG1 1 (r' := .agg (nodeRow (atI f i) (.os 1 (atI f i).kids.length))) rfl rfl rfl rfl rfl (qf9 (atI f i) (hf.atI i hp hp1) hk) rfl (fun _ => rfl) rfl rfl rfl (by simp only [List.all_cons, List.all_nil, List.all_map, Function.comp_def, cI, cB, iav, bav, AV.sc1, AV.sc0, Bool.and_true, Bool.and_self, qh]; try rfl) (bA := ⟨3, 1, (atI f i).kids.map cI⟩) (fun n => by simp only [renB, eR]) (fun _ => rfl)) rfl rfl rfl rfl rfl ?_ | refine DQ.stepc (yar (b := ⟨44, 16, T.take i.toNat ++ List.replicate (f.length - i.toNat) ti44.zero⟩) tabs rfl rfl rfl rfl rfl rfl rfl rfl rfl (qaf _ _ _ _ hT h0 h2).symm rfl (by omega) (by omega)) rfl rfl rfl rfl rfl ?_ | refine DQ.stepc (LS.store (i := ti44) (v := .agg (nodeRow (atI f i) (.os 1 (atI f i).kids.length))) (ty := 44) (sz := 16) (rows := T.take i.toNat ++ List.replicate (f.length - i.toNat) ti44.zero) tabs rfl rfl rfl rfl rfl rfl rfl (qaf _ _ _ _ hT h0 h2).symm rfl rfl (by decide) (qdr _ _ _ _ hT h0 (by omega))) rfl rfl rfl rfl rfl ?_ | refine DQ.stepc (LS.val tabs rfl rfl rfl) rfl rfl rfl rfl rfl ?_ | refine DQ.stepc (yu rfl rfl) rfl rfl rfl rfl rfl ?_ | refine DQ.nilM (by kernel_rfl) ?_ | refine DQ.stepc (yad rfl rfl rfl rfl rfl rfl (by omega) (by omega)) rfl rfl rfl rfl rfl ?_ | refine DQ.stepc (yw tabs rfl rfl rfl rfl rfl rfl rfl rfl (fun _ => rfl) (by decide) (by omega) (by omega)) rfl rfl rfl rfl rfl ?_) | refine ym ?_ | refine ya ?_ | refine yb ?_ | refine yg ?_ | refine AW.block ?_ | refine yy ?_ | refine yi rfl ?_ | refine yh rfl ?_ | (refine yk rfl (fun hc => ?_) (fun hc => ?_) <;> (try simp only [hsx] at hc) <;> (try first | omega | contradiction | (simp [qa] at hc; done))) | refine yo ?_ | refine yaa ?_ | refine yc ?_ | refine yt ?_ | refine yab ?_ | refine yx ?_ | refine InB.off rfl ?_ | refine yaf ?_ | refine yac ?_ | refine yr mixed (by kernel_rfl) ?_))
    refine yak (i + 1) (yag 5 (by rw [← take_set T ti44.zero f.length i hT h0 (by assumption), e2, e3]; rfl) (by repeat' (first | exact trivial | refine ⟨rfl, ?_⟩)) rfl (by simp only [qax]; exact ⟨qa9 _ _ _ (hsc _ (by omega)), (by simp only [List.all_cons, List.all_nil, List.all_map, Function.comp_def, cI, cB, iav, bav, AV.sc1, AV.sc0, Bool.and_true, Bool.and_self, qh]; try rfl), rfl, rfl, rfl⟩) (by simp [cxG])) ⟨by omega, by omega⟩ (by omega)
  · have e2 : i < f.length → K (i + 1) = K i := fun hi => by
      rw [hK, hK]
      by_cases h : p < i
      · rw [if_pos (by omega), if_pos h]
      · rw [if_neg (by omega), if_neg h]
    have e3 : i < f.length → atI T i = rowS (atI f i) := fun hi => by rw [hat i h0 hi, if_neg hip]
    (repeat' (first | ((with_reducible show AL _ _ _ _ _); first | (refine yf tabs rfl ?_; try dsimp only [len, List.nil_append, List.cons_append]) | refine yn ?_ | (refine AL.op rfl (yj rfl rfl rfl rfl rfl (by omega) (by omega)) ?_) | (refine AL.op rfl (ye tabs rfl rfl rfl rfl rfl rfl rfl (fun _ => rfl) (by decide) (by omega) (by omega)) ?_)) | ((with_reducible show DQ _ _ _ _ _ _); first | refine DQ.stepc (yai rfl rfl rfl rfl rfl (qa0 (atI f i) (hf.atI i h0 (by omega))) rfl) rfl rfl rfl rfl rfl ?_ | refine DQ.stepc (yar (b := ⟨44, 16, T.take i.toNat ++ List.replicate (f.length - i.toNat) ti44.zero⟩) tabs rfl rfl rfl rfl rfl rfl rfl rfl rfl (qaf _ _ _ _ hT h0 h2).symm rfl (by omega) (by omega)) rfl rfl rfl rfl rfl ?_ | refine DQ.stepc (LS.store (i := ti44) (v := .agg (rowS (atI f i))) (ty := 44) (sz := 16) (rows := T.take i.toNat ++ List.replicate (f.length - i.toNat) ti44.zero) tabs rfl rfl rfl rfl rfl rfl rfl (qaf _ _ _ _ hT h0 h2).symm rfl rfl (by decide) (qdr _ _ _ _ hT h0 (by omega))) rfl rfl rfl rfl rfl ?_ | refine DQ.stepc (LS.val tabs rfl rfl rfl) rfl rfl rfl rfl rfl ?_ | refine DQ.stepc (yu rfl rfl) rfl rfl rfl rfl rfl ?_ | refine DQ.nilM (by kernel_rfl) ?_ | refine DQ.stepc (yad rfl rfl rfl rfl rfl rfl (by omega) (by omega)) rfl rfl rfl rfl rfl ?_ | refine DQ.stepc (yw tabs rfl rfl rfl rfl rfl rfl rfl rfl (fun _ => rfl) (by decide) (by omega) (by omega)) rfl rfl rfl rfl rfl ?_) | refine ym ?_ | refine ya ?_ | refine yb ?_ | refine yg ?_ | refine AW.block ?_ | refine yy ?_ | refine yi rfl ?_ | refine yh rfl ?_ | (refine yk rfl (fun hc => ?_) (fun hc => ?_) <;> (try simp only [hsx] at hc) <;> (try first | omega | contradiction | (simp [qa] at hc; done))) | refine yo ?_ | refine yaa ?_ | refine yc ?_ | refine yt ?_ | refine yab ?_ | refine yx ?_ | refine InB.off rfl ?_ | refine yaf ?_ | refine yac ?_ | refine yr mixed (by kernel_rfl) ?_))
    · refine yak (i + 1) (yag 5 (by rw [← take_set T ti44.zero f.length i hT h0 (by assumption), e2 (by assumption), e3 (by assumption)]; rfl) (by repeat' (first | exact trivial | refine ⟨rfl, ?_⟩)) rfl (by simp only [qax]; exact ⟨qa9 _ _ _ (hsc _ (by omega)), (by simp only [List.all_cons, List.all_nil, List.all_map, Function.comp_def, cI, cB, iav, bav, AV.sc1, AV.sc0, Bool.and_true, Bool.and_self, qh]; try rfl), rfl, rfl, rfl⟩) (by simp [cxG])) ⟨by omega, by omega⟩ (by omega)
    · have e : T.take i.toNat ++ List.replicate (f.length - i.toNat) ti44.zero = T := by
        rw [qo (by omega), show f.length - i.toNat = 0 by omega]; simp
      have e4 : K i = (atI f p).kids := by rw [hK, if_pos (by omega)]
      refine yal 2 rfl rfl (by rw [e, e4]; rfl) rfl ?_ (by simp [cxG])
      simp only [qax]
      exact ⟨hsc _ (by omega), (by simp only [List.all_cons, List.all_nil, List.all_map, Function.comp_def, cI, cB, iav, bav, AV.sc1, AV.sc0, Bool.and_true, Bool.and_self, qh]; try rfl)⟩
end Go.Proofs.YtmhejcnaanocpaaGreat.A
