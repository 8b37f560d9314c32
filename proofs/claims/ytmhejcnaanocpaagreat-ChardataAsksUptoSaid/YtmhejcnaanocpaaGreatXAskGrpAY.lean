/- Contracts: the reference of layer 3: whether units, numbers, nodes, forests are the same. -/
import Derived.Test.YtmhejcnaanocpaaGreatXAskGrpAN
import Derived.Test.YtmhejcnaanocpaaGreatXAskGrpAT
import Derived.Test.YtmhejcnaanocpaaGreatXAskGrpAX
import Derived.Test.YtmhejcnaanocpaaGreatXAskGrpAK
import Derived.RangeFuncBound
import Derived.OwnWalkIn
import Derived.TacticsInMore
namespace Go.Proofs.YtmhejcnaanocpaaGreat.A
set_option linter.unusedVariables false
set_option linter.unusedSimpArgs false
set_option maxRecDepth 100000
set_option maxHeartbeats 4000000
theorem qlz (a b : List Int) (hl : a.length ≤ 1000000000) : PureC Tryz.prog 72 [.imm (.sl (a.map u16)), .imm (.sl (b.map u16))] (bav (dec (a = b))) := by
  refine yq tabs Tryz.func72 26 [.tmp 4] rfl rfl rfl rfl rfl ?_; intro w0 X
  (repeat' (first | ((with_reducible show AL _ _ _ _ _); first | (refine AL.step tabs rfl ?_; try dsimp only [len, List.nil_append, List.cons_append]) | refine ym ?_ | (refine AL.op rfl (yi rfl rfl rfl rfl rfl (by omega) (by omega)) ?_) | (refine AL.op rfl (ye tabs rfl rfl rfl rfl rfl rfl rfl (fun _ => rfl) (by decide) (by omega) (by omega)) ?_)) | ((with_reducible show DQ _ _ _ _ _ _); first | refine DQ.stepc (LS.val tabs rfl rfl rfl) rfl rfl rfl rfl rfl ?_ | refine DQ.stepc (yab rfl rfl) rfl rfl rfl rfl rfl ?_ | refine DQ.nilM (by kernel_rfl) ?_ | refine DQ.stepc (yaf rfl rfl rfl rfl rfl rfl (by omega) (by omega)) rfl rfl rfl rfl rfl ?_ | refine DQ.stepc (yaa tabs rfl rfl rfl rfl rfl rfl rfl rfl (fun _ => rfl) (by decide) (by omega) (by omega)) rfl rfl rfl rfl rfl ?_) | fail | refine yn ?_ | refine yc ?_ | refine ya ?_ | refine yf ?_ | refine AW.block ?_ | refine yt ?_ | refine yh rfl ?_ | refine yg rfl ?_ | (refine yk rfl (fun hc => ?_) (fun hc => ?_) <;> (try simp only [hsx] at hc) <;> (try first | omega | contradiction | (simp [qa] at hc; done))) | refine yo ?_ | refine yy ?_ | refine yd ?_ | refine yp ?_ | refine yw ?_ | refine yr ?_ | refine InB.off rfl ?_ | refine yz ?_ | refine yu ?_ | refine yx mixed (by kernel_rfl) ?_))
  · rw [qw (p := a = b) (fun e => by subst e; exact hc rfl)]
    exact RQ.fin rfl rfl rfl
  have hlen : a.length = b.length := by omega
  clear hc
  refine yak (α := Int) (fun i => ⟨[(0, .imm (.sl (a.map u16))), (1, .imm (.sl (b.map u16))), (12, iav (a.map u16).length), (13, iav i)], []⟩) (fun i => 0 ≤ i ∧ i ≤ a.length ∧ a.take i.toNat = b.take i.toNat) (fun i => (a.length - i).toNat) 0 (yae 0 rfl (by repeat' (first | exact trivial | refine ⟨rfl, ?_⟩)) rfl rfl (Nat.zero_le _)) ⟨by omega, by omega, rfl⟩ ?_
  intro i ⟨h0, h1, h2⟩
  (repeat' (first | ((with_reducible show AL _ _ _ _ _); first | (refine AL.step tabs rfl ?_; try dsimp only [len, List.nil_append, List.cons_append]) | refine ym ?_ | (refine AL.op rfl (yi rfl rfl rfl rfl rfl (by omega) (by omega)) ?_) | (refine AL.op rfl (ye tabs rfl rfl rfl rfl rfl rfl rfl (fun _ => rfl) (by decide) (by omega) (by omega)) ?_)) | ((with_reducible show DQ _ _ _ _ _ _); first | refine DQ.stepc (LS.val tabs rfl rfl rfl) rfl rfl rfl rfl rfl ?_ | refine DQ.stepc (yab rfl rfl) rfl rfl rfl rfl rfl ?_ | refine DQ.nilM (by kernel_rfl) ?_ | refine DQ.stepc (yaf rfl rfl rfl rfl rfl rfl (by omega) (by omega)) rfl rfl rfl rfl rfl ?_ | refine DQ.stepc (yaa tabs rfl rfl rfl rfl rfl rfl rfl rfl (fun _ => rfl) (by decide) (by omega) (by omega)) rfl rfl rfl rfl rfl ?_) | refine yn ?_ | refine yc ?_ | refine ya ?_ | refine yf ?_ | refine AW.block ?_ | refine yt ?_ | refine yh rfl ?_ | refine yg rfl ?_ | (refine yk rfl (fun hc => ?_) (fun hc => ?_) <;> (try simp only [hsx] at hc) <;> (try first | omega | contradiction | (simp [qa] at hc; done))) | refine yo ?_ | refine yy ?_ | refine yd ?_ | refine yp ?_ | refine yw ?_ | refine yr ?_ | refine InB.off rfl ?_ | refine yz ?_ | refine yu ?_ | refine yx mixed (by kernel_rfl) ?_))
  · rw [qw (p := a = b) (qc6 hc)]
    exact RQ.fin rfl rfl rfl
  · refine yag (i + 1) (yae 0 rfl (by repeat' (first | exact trivial | refine ⟨rfl, ?_⟩)) rfl rfl (Nat.zero_le _)) ⟨by omega, by omega, ?_⟩ (by omega)
    rw [qi h0 (by assumption), qi h0 (by omega), h2, hc]
  · rw [qq hc, qq (by omega)] at h2
    rw [qaw (p := a = b) h2]; exact RQ.fin rfl rfl rfl
theorem qn1 (a b : List Int) (hl : a.length ≤ 1000000000) : PureC Tryz.prog 73 [.imm (.sl (a.map i64)), .imm (.sl (b.map i64))] (bav (dec (a = b))) := by
  refine yq tabs Tryz.func73 26 [.tmp 4] rfl rfl rfl rfl rfl ?_; intro w0 X
  (repeat' (first | ((with_reducible show AL _ _ _ _ _); first | (refine AL.step tabs rfl ?_; try dsimp only [len, List.nil_append, List.cons_append]) | refine ym ?_ | (refine AL.op rfl (yi rfl rfl rfl rfl rfl (by omega) (by omega)) ?_) | (refine AL.op rfl (ye tabs rfl rfl rfl rfl rfl rfl rfl (fun _ => rfl) (by decide) (by omega) (by omega)) ?_)) | ((with_reducible show DQ _ _ _ _ _ _); first | refine DQ.stepc (LS.val tabs rfl rfl rfl) rfl rfl rfl rfl rfl ?_ | refine DQ.stepc (yab rfl rfl) rfl rfl rfl rfl rfl ?_ | refine DQ.nilM (by kernel_rfl) ?_ | refine DQ.stepc (yaf rfl rfl rfl rfl rfl rfl (by omega) (by omega)) rfl rfl rfl rfl rfl ?_ | refine DQ.stepc (yaa tabs rfl rfl rfl rfl rfl rfl rfl rfl (fun _ => rfl) (by decide) (by omega) (by omega)) rfl rfl rfl rfl rfl ?_) | fail | refine yn ?_ | refine yc ?_ | refine ya ?_ | refine yf ?_ | refine AW.block ?_ | refine yt ?_ | refine yh rfl ?_ | refine yg rfl ?_ | (refine yk rfl (fun hc => ?_) (fun hc => ?_) <;> (try simp only [hsx] at hc) <;> (try first | omega | contradiction | (simp [qa] at hc; done))) | refine yo ?_ | refine yy ?_ | refine yd ?_ | refine yp ?_ | refine yw ?_ | refine yr ?_ | refine InB.off rfl ?_ | refine yz ?_ | refine yu ?_ | refine yx mixed (by kernel_rfl) ?_))
  · rw [qw (p := a = b) (fun e => by subst e; exact hc rfl)]
    exact RQ.fin rfl rfl rfl
  have hlen : a.length = b.length := by omega
  clear hc
  refine yak (α := Int) (fun i => ⟨[(0, .imm (.sl (a.map i64))), (1, .imm (.sl (b.map i64))), (12, iav (a.map i64).length), (13, iav i)], []⟩) (fun i => 0 ≤ i ∧ i ≤ a.length ∧ a.take i.toNat = b.take i.toNat) (fun i => (a.length - i).toNat) 0 (yae 0 rfl (by repeat' (first | exact trivial | refine ⟨rfl, ?_⟩)) rfl rfl (Nat.zero_le _)) ⟨by omega, by omega, rfl⟩ ?_
  intro i ⟨h0, h1, h2⟩
  (repeat' (first | ((with_reducible show AL _ _ _ _ _); first | (refine AL.step tabs rfl ?_; try dsimp only [len, List.nil_append, List.cons_append]) | refine ym ?_ | (refine AL.op rfl (yi rfl rfl rfl rfl rfl (by omega) (by omega)) ?_) | (refine AL.op rfl (ye tabs rfl rfl rfl rfl rfl rfl rfl (fun _ => rfl) (by decide) (by omega) (by omega)) ?_)) | ((with_reducible show DQ _ _ _ _ _ _); first | refine DQ.stepc (LS.val tabs rfl rfl rfl) rfl rfl rfl rfl rfl ?_ | refine DQ.stepc (yab rfl rfl) rfl rfl rfl rfl rfl ?_ | refine DQ.nilM (by kernel_rfl) ?_ | refine DQ.stepc (yaf rfl rfl rfl rfl rfl rfl (by omega) (by omega)) rfl rfl rfl rfl rfl ?_ | refine DQ.stepc (yaa tabs rfl rfl rfl rfl rfl rfl rfl rfl (fun _ => rfl) (by decide) (by omega) (by omega)) rfl rfl rfl rfl rfl ?_) | refine yn ?_ | refine yc ?_ | refine ya ?_ | refine yf ?_ | refine AW.block ?_ | refine yt ?_ | refine yh rfl ?_ | refine yg rfl ?_ | (refine yk rfl (fun hc => ?_) (fun hc => ?_) <;> (try simp only [hsx] at hc) <;> (try first | omega | contradiction | (simp [qa] at hc; done))) | refine yo ?_ | refine yy ?_ | refine yd ?_ | refine yp ?_ | refine yw ?_ | refine yr ?_ | refine InB.off rfl ?_ | refine yz ?_ | refine yu ?_ | refine yx mixed (by kernel_rfl) ?_))
  · rw [qw (p := a = b) (qc6 hc)]
    exact RQ.fin rfl rfl rfl
  · refine yag (i + 1) (yae 0 rfl (by repeat' (first | exact trivial | refine ⟨rfl, ?_⟩)) rfl rfl (Nat.zero_le _)) ⟨by omega, by omega, ?_⟩ (by omega)
    rw [qi h0 (by assumption), qi h0 (by omega), h2, hc]
  · rw [qq hc, qq (by omega)] at h2
    rw [qaw (p := a = b) h2]; exact RQ.fin rfl rfl rfl
theorem qg7 (a b : Node) (ha : FitN a) : PureC Tryz.prog 31 [a.av, b.av] (bav (dec (a = b))) := by
  have hla := ha.attrs
  refine yq tabs Tryz.func31 120 [.tmp 4] rfl rfl rfl rfl rfl ?_; intro w0 X
  (repeat' (first | ((with_reducible show AL _ _ _ _ _); first | (refine AL.step tabs rfl ?_; try dsimp only [len, List.nil_append, List.cons_append]) | refine AL.op rfl (yb rfl rfl rfl rfl (qlz a.data b.data ha.data) rfl) ?_ | refine AL.op rfl (yb rfl rfl rfl rfl (qn1 a.kids b.kids ha.kids) rfl) ?_ | refine ym ?_ | (refine yj rfl rfl rfl (fun hc => ?_) (fun hc => ?_) <;> (fail_if_success (exact absurd hc (by decide))) <;> (try simp only [hsx] at hc) <;> (try first | omega | contradiction | (simp [qa] at hc; done))) | (refine AL.op rfl (yi rfl rfl rfl rfl rfl (by omega) (by omega)) ?_) | (refine AL.op rfl (ye tabs rfl rfl rfl rfl rfl rfl rfl (fun _ => rfl) (by decide) (by omega) (by omega)) ?_) | (refine AL.op rfl (ya5 rfl rfl rfl rfl eqt39 rfl rfl) ?_) | (refine AL.op rfl (ya5 rfl rfl rfl rfl eqt104 rfl rfl) ?_)) | ((with_reducible show DQ _ _ _ _ _ _); first | refine DQ.stepc (LS.val tabs rfl rfl rfl) rfl rfl rfl rfl rfl ?_ | refine DQ.stepc (yab rfl rfl) rfl rfl rfl rfl rfl ?_ | refine DQ.nilM (by kernel_rfl) ?_ | refine DQ.stepc (yaf rfl rfl rfl rfl rfl rfl (by omega) (by omega)) rfl rfl rfl rfl rfl ?_ | refine DQ.stepc (yaa tabs rfl rfl rfl rfl rfl rfl rfl rfl (fun _ => rfl) (by decide) (by omega) (by omega)) rfl rfl rfl rfl rfl ?_ | (refine DQ.gsplitE rfl rfl rfl (fun hc => ?_) (fun hc => ?_) <;> (fail_if_success (exact absurd hc (by decide))) <;> (try simp only [hsx] at hc) <;> (try first | omega | contradiction | (simp [qa] at hc; done))) | refine DQ.stepc (yb3 rfl rfl rfl rfl rfl eqt39 rfl rfl) rfl rfl rfl rfl rfl ?_ | refine DQ.stepc (yb3 rfl rfl rfl rfl rfl eqt104 rfl rfl) rfl rfl rfl rfl rfl ?_) | refine yn ?_ | refine yc ?_ | refine ya ?_ | refine yf ?_ | refine AW.block ?_ | refine yt ?_ | refine yh rfl ?_ | refine yg rfl ?_ | (refine yk rfl (fun hc => ?_) (fun hc => ?_) <;> (try simp only [hsx] at hc) <;> (try first | omega | contradiction | (simp [qa] at hc; done))) | refine yo ?_ | refine yy ?_ | refine yd ?_ | refine yp ?_ | refine yw ?_ | refine yr ?_ | refine InB.off rfl ?_ | refine yz ?_ | refine yu ?_ | refine yx mixed (by kernel_rfl) ?_))
  all_goals try (refine RQ.fin rfl rfl (congrArg bav ?_); rw [Bool.eq_iff_iff]; simp only [Bool.and_eq_true, qb, qgo, qc5, beq_iff_eq]; grind)
  have hlen : a.attrs.length = b.attrs.length := by grind
  refine yak (α := Int) (fun i => ⟨[(2, .ptr 0 1 0 0), (3, .ptr 1 1 0 0), (31, iav (a.attrs.map Attr.iv).length), (32, iav i)], [⟨44, 16, [a.iv.map .imm]⟩, ⟨44, 16, [b.iv.map .imm]⟩]⟩) (fun i => 0 ≤ i ∧ i ≤ a.attrs.length ∧ a.attrs.take i.toNat = b.attrs.take i.toNat) (fun i => (a.attrs.length - i).toNat) 0 (yae 2 rfl (by repeat' (first | exact trivial | refine ⟨rfl, ?_⟩)) rfl rfl (Nat.zero_le _)) ⟨by omega, by omega, rfl⟩ ?_
  intro i ⟨h0, h1, h2⟩
  (repeat' (first | ((with_reducible show AL _ _ _ _ _); first | (refine AL.step tabs rfl ?_; try dsimp only [len, List.nil_append, List.cons_append]) | refine ym ?_ | (refine yj rfl rfl rfl (fun hc => ?_) (fun hc => ?_) <;> (fail_if_success (exact absurd hc (by decide))) <;> (try simp only [hsx] at hc) <;> (try first | omega | contradiction | (simp [qa] at hc; done))) | (refine AL.op rfl (yi rfl rfl rfl rfl rfl (by omega) (by omega)) ?_) | (refine AL.op rfl (ye tabs rfl rfl rfl rfl rfl rfl rfl (fun _ => rfl) (by decide) (by omega) (by omega)) ?_) | (refine AL.op rfl (ya5 rfl rfl rfl rfl eqt39 rfl rfl) ?_) | (refine AL.op rfl (ya5 rfl rfl rfl rfl eqt104 rfl rfl) ?_)) | ((with_reducible show DQ _ _ _ _ _ _); first | refine DQ.stepc (LS.val tabs rfl rfl rfl) rfl rfl rfl rfl rfl ?_ | refine DQ.stepc (yab rfl rfl) rfl rfl rfl rfl rfl ?_ | refine DQ.nilM (by kernel_rfl) ?_ | refine DQ.stepc (yaf rfl rfl rfl rfl rfl rfl (by omega) (by omega)) rfl rfl rfl rfl rfl ?_ | refine DQ.stepc (yaa tabs rfl rfl rfl rfl rfl rfl rfl rfl (fun _ => rfl) (by decide) (by omega) (by omega)) rfl rfl rfl rfl rfl ?_ | (refine DQ.gsplitE rfl rfl rfl (fun hc => ?_) (fun hc => ?_) <;> (fail_if_success (exact absurd hc (by decide))) <;> (try simp only [hsx] at hc) <;> (try first | omega | contradiction | (simp [qa] at hc; done))) | refine DQ.stepc (yb3 rfl rfl rfl rfl rfl eqt39 rfl rfl) rfl rfl rfl rfl rfl ?_ | refine DQ.stepc (yb3 rfl rfl rfl rfl rfl eqt104 rfl rfl) rfl rfl rfl rfl rfl ?_) | refine yn ?_ | refine yc ?_ | refine ya ?_ | refine yf ?_ | refine AW.block ?_ | refine yt ?_ | refine yh rfl ?_ | refine yg rfl ?_ | (refine yk rfl (fun hc => ?_) (fun hc => ?_) <;> (try simp only [hsx] at hc) <;> (try first | omega | contradiction | (simp [qa] at hc; done))) | refine yo ?_ | refine yy ?_ | refine yd ?_ | refine yp ?_ | refine yw ?_ | refine yr ?_ | refine InB.off rfl ?_ | refine yz ?_ | refine yu ?_ | refine yx mixed (by kernel_rfl) ?_))
  · rw [qw (p := a = b) (fun e => by subst e; simp [qa] at hc)]
    exact RQ.fin rfl rfl rfl
  · have e : atI a.attrs i = atI b.attrs i := by
      simp only [Bool.and_eq_true, qb] at hc
      rw [qi5, qc5]; grind
    refine yag (i + 1) (yae 2 rfl (by repeat' (first | exact trivial | refine ⟨rfl, ?_⟩)) rfl rfl (Nat.zero_le _)) ⟨by omega, by omega, ?_⟩ (by omega)
    rw [qi h0 (by assumption), qi h0 (by omega), h2, e]
  all_goals
    have ea : a.attrs = b.attrs := by
      rw [qq (by assumption), qq (by omega)] at h2
      exact h2
    refine RQ.fin rfl rfl (congrArg bav ?_)
    rw [Bool.eq_iff_iff]
    simp only [Bool.and_eq_true, Bool.and_eq_false_iff, qb, qg, qgo, qc5, beq_iff_eq] at *
    grind
theorem qn2 (f g : List Node) (hf : Fit f) : PureC Tryz.prog 16 [fav f, fav g] (bav (dec (f = g))) := by
  have hl := hf.len
  refine yq tabs Tryz.func16 32 [.tmp 4] rfl rfl rfl rfl rfl ?_; intro w0 X
  (repeat' (first | ((with_reducible show AL _ _ _ _ _); first | (refine AL.step tabs rfl ?_; try dsimp only [len, List.nil_append, List.cons_append]) | refine ym ?_ | (refine AL.op rfl (yi rfl rfl rfl rfl rfl (by omega) (by omega)) ?_) | (refine AL.op rfl (ye tabs rfl rfl rfl rfl rfl rfl rfl (fun _ => rfl) (by decide) (by omega) (by omega)) ?_)) | ((with_reducible show DQ _ _ _ _ _ _); first | refine DQ.stepc (LS.val tabs rfl rfl rfl) rfl rfl rfl rfl rfl ?_ | refine DQ.stepc (yab rfl rfl) rfl rfl rfl rfl rfl ?_ | refine DQ.nilM (by kernel_rfl) ?_ | refine DQ.stepc (yaf rfl rfl rfl rfl rfl rfl (by omega) (by omega)) rfl rfl rfl rfl rfl ?_ | refine DQ.stepc (yaa tabs rfl rfl rfl rfl rfl rfl rfl rfl (fun _ => rfl) (by decide) (by omega) (by omega)) rfl rfl rfl rfl rfl ?_) | refine yn ?_ | refine yc ?_ | refine ya ?_ | refine yf ?_ | refine AW.block ?_ | refine yt ?_ | refine yh rfl ?_ | refine yg rfl ?_ | (refine yk rfl (fun hc => ?_) (fun hc => ?_) <;> (try simp only [hsx] at hc) <;> (try first | omega | contradiction | (simp [qa] at hc; done))) | refine yo ?_ | refine yy ?_ | refine yd ?_ | refine yp ?_ | refine yw ?_ | refine yr ?_ | refine InB.off rfl ?_ | refine yz ?_ | refine yu ?_ | refine yx mixed (by kernel_rfl) ?_))
  · rw [qw (p := f = g) (fun e => by subst e; exact hc rfl)]
    exact RQ.fin rfl rfl rfl
  have hlen : f.length = g.length := by grind
  refine yak (α := Int) (fun i => ⟨[(2, .ptr 0 1 0 0), (3, .ptr 1 1 0 0), (15, iav (f.map Node.iv).length), (16, iav i)], [⟨24, 1, [[.imm (.sl (f.map Node.iv))]]⟩, ⟨24, 1, [[.imm (.sl (g.map Node.iv))]]⟩]⟩) (fun i => 0 ≤ i ∧ i ≤ f.length ∧ f.take i.toNat = g.take i.toNat) (fun i => (f.length - i).toNat) 0 (yae 2 rfl (by repeat' (first | exact trivial | refine ⟨rfl, ?_⟩)) rfl rfl (Nat.zero_le _)) ⟨by omega, by omega, rfl⟩ ?_
  intro i ⟨h0, h1, h2⟩
  (repeat' (first | ((with_reducible show AL _ _ _ _ _); first | (refine AL.step tabs rfl ?_; try dsimp only [len, List.nil_append, List.cons_append]) | refine ym ?_ | (refine AL.op rfl (yi rfl rfl rfl rfl rfl (by omega) (by omega)) ?_) | (refine AL.op rfl (ye tabs rfl rfl rfl rfl rfl rfl rfl (fun _ => rfl) (by decide) (by omega) (by omega)) ?_)) | ((with_reducible show DQ _ _ _ _ _ _); first | refine DQ.stepc (yai rfl rfl rfl rfl rfl (qg7 (atI f i) (atI g i) (hf.atI i (by omega) (by omega))) rfl) rfl rfl rfl rfl rfl ?_ | refine DQ.stepc (LS.val tabs rfl rfl rfl) rfl rfl rfl rfl rfl ?_ | refine DQ.stepc (yab rfl rfl) rfl rfl rfl rfl rfl ?_ | refine DQ.nilM (by kernel_rfl) ?_ | refine DQ.stepc (yaf rfl rfl rfl rfl rfl rfl (by omega) (by omega)) rfl rfl rfl rfl rfl ?_ | refine DQ.stepc (yaa tabs rfl rfl rfl rfl rfl rfl rfl rfl (fun _ => rfl) (by decide) (by omega) (by omega)) rfl rfl rfl rfl rfl ?_) | refine yn ?_ | refine yc ?_ | refine ya ?_ | refine yf ?_ | refine AW.block ?_ | refine yt ?_ | refine yh rfl ?_ | refine yg rfl ?_ | (refine yk rfl (fun hc => ?_) (fun hc => ?_) <;> (try simp only [hsx] at hc) <;> (try first | omega | contradiction | (simp [qa] at hc; done))) | refine yo ?_ | refine yy ?_ | refine yd ?_ | refine yp ?_ | refine yw ?_ | refine yr ?_ | refine InB.off rfl ?_ | refine yz ?_ | refine yu ?_ | refine yx mixed (by kernel_rfl) ?_))
  · rw [qw (p := f = g) (qc6 hc)]
    exact RQ.fin rfl rfl rfl
  · refine yag (i + 1) (yae 2 rfl (by repeat' (first | exact trivial | refine ⟨rfl, ?_⟩)) rfl rfl (Nat.zero_le _)) ⟨by omega, by omega, ?_⟩ (by omega)
    rw [qi h0 (by assumption), qi h0 (by omega), h2, hc]
  · rw [qq hc, qq (by omega)] at h2
    rw [qaw (p := f = g) h2]; exact RQ.fin rfl rfl rfl
set_option maxHeartbeats 4000000
set_option linter.unusedVariables false
set_option linter.unusedSimpArgs false
set_option maxRecDepth 100000
set_option maxHeartbeats 4000000
section
variable {f : List Node} {h off : Int} (hf : Fit f) (hr : rightP f) (hh : inR f h) (ht : textB (nodeAt f h).kind) (h0 : 0 ≤ off) (ho : off ≤ (nodeAt f h).data.length)
include hf hr hh ht h0 ho
end
set_option maxHeartbeats 4000000
set_option linter.unusedVariables false
set_option linter.unusedSimpArgs false
set_option maxRecDepth 100000
set_option maxHeartbeats 4000000
set_option linter.unusedVariables false
set_option linter.unusedSimpArgs false
set_option maxRecDepth 100000
set_option maxHeartbeats 4000000
set_option linter.unusedVariables false
set_option linter.unusedSimpArgs false
set_option maxRecDepth 100000
set_option maxHeartbeats 4000000
open Go.Shelf Go.RowKit
set_option linter.unusedVariables false
set_option linter.unusedSimpArgs false
set_option maxHeartbeats 4000000
set_option maxRecDepth 100000
theorem All2.uncons {α β : Type} {R : α → β → Prop} {v : α} {l : List α} {xs : List β} (h : All2 R (v :: l) xs) : ∃ x ys, xs = x :: ys ∧ R v x ∧ All2 R l ys := by
  cases h with
  | cons h1 h2 => exact ⟨_, _, rfl, h1, h2⟩
theorem qpd (f : List Node) (hl : f.length ≤ 1000000000) (h : Int) (W : World) (ad : Addr) (c : Nat) (h1 : 1 ≤ h) (h2 : h ≤ f.length) (k0 i8 i10 i11 i12 k13 : Int) (s1 s2 s3 s4 s5 : ByteArray) (A6 A7 A9 : Option Addr) (n6 m6 n7 m7 n9 m9 : Nat) (b14 b15 : Bool) (hrow : ∀ (j : Nat) (u : Value), [Value.int .u8 k0, Value.string s1, Value.string s2, Value.string s3, Value.string s4, Value.string s5, Value.slice A6 n6 m6, Value.slice A7 n7 m7, Value.int .i64 i8, Value.slice A9 n9 m9, Value.int .i64 i10, Value.int .i64 i11, Value.int .i64 i12, Value.int .u8 k13, Value.bool b14, Value.bool b15][j]? = some u → W.cell? (ad.add ((h.toNat - 1) * 16 + j)) = some u) :
    Calls Tryz.prog 40 #[.agg #[.slice (some ad) f.length c], .int .i64 h] W fun e W' => e = .returned (.agg #[Value.int .u8 k0, Value.string s1, Value.string s2, Value.string s3, Value.string s4, Value.string s5, Value.slice A6 n6 m6, Value.slice A7 n7 m7, Value.int .i64 i8, Value.slice A9 n9 m9, Value.int .i64 i10, Value.int .i64 i11, Value.int .i64 i12, Value.int .u8 k13, Value.bool b14, Value.bool b15]) ∧ Below W.heap.size W W' := by
  have d1 : decide (h < 1) = false := decide_eq_false (by omega)
  have d2 : decide ((f.length : Int) < h) = false := decide_eq_false (by omega)
  have d3 : IntKind.i64.wrap (h - 1) = h - 1 := by rw [IntKind.wrap_i64]; omega
  have hcell : ∀ (o1 o2 : Obj) (p : Addr) (y : Value), W.cell? p = some y → ((W.alloc o1).alloc o2).cell? p = some y := fun o1 o2 p y hy => by
    obtain ⟨o, ho⟩ := qbq hy
    have hlt := (Array.getElem?_eq_some_iff.1 ho).1
    exact (World.cell?_of_block ((Below.heap_alloc _ o2 _ (by simp; omega)).trans (Below.heap_alloc W o1 _ hlt))).trans hy
  have hadd : ∀ j : Nat, j ≠ 0 → ({ block := (ad.add ((h.toNat - 1) * 16)).block, off := (ad.add ((h.toNat - 1) * 16)).off + j } : Addr) = ad.add ((h.toNat - 1) * 16 + j) := fun j hj => by
    unfold Addr.add
    split
    · rename_i hk; rw [if_neg (by omega), hk, Nat.zero_add]
    · rw [if_neg (by omega)]; simp only [Nat.add_assoc]
  have e0 : ∀ o1 o2 : Obj, ((W.alloc o1).alloc o2).cell? (ad.add ((h.toNat - 1) * 16)) = some (Value.int .u8 k0) := fun o1 o2 => hcell _ _ _ _ (hrow 0 _ rfl)
  have e1 : ∀ o1 o2 : Obj, ((W.alloc o1).alloc o2).cell? { block := (ad.add ((h.toNat - 1) * 16)).block, off := (ad.add ((h.toNat - 1) * 16)).off + 1 } = some (Value.string s1) := fun o1 o2 => by rw [hadd 1 (by decide)]; exact hcell _ _ _ _ (hrow 1 _ rfl)
  have e2 : ∀ o1 o2 : Obj, ((W.alloc o1).alloc o2).cell? { block := (ad.add ((h.toNat - 1) * 16)).block, off := (ad.add ((h.toNat - 1) * 16)).off + 2 } = some (Value.string s2) := fun o1 o2 => by rw [hadd 2 (by decide)]; exact hcell _ _ _ _ (hrow 2 _ rfl)
  have e3 : ∀ o1 o2 : Obj, ((W.alloc o1).alloc o2).cell? { block := (ad.add ((h.toNat - 1) * 16)).block, off := (ad.add ((h.toNat - 1) * 16)).off + 3 } = some (Value.string s3) := fun o1 o2 => by rw [hadd 3 (by decide)]; exact hcell _ _ _ _ (hrow 3 _ rfl)
  have e4 : ∀ o1 o2 : Obj, ((W.alloc o1).alloc o2).cell? { block := (ad.add ((h.toNat - 1) * 16)).block, off := (ad.add ((h.toNat - 1) * 16)).off + 4 } = some (Value.string s4) := fun o1 o2 => by rw [hadd 4 (by decide)]; exact hcell _ _ _ _ (hrow 4 _ rfl)
  have e5 : ∀ o1 o2 : Obj, ((W.alloc o1).alloc o2).cell? { block := (ad.add ((h.toNat - 1) * 16)).block, off := (ad.add ((h.toNat - 1) * 16)).off + 5 } = some (Value.string s5) := fun o1 o2 => by rw [hadd 5 (by decide)]; exact hcell _ _ _ _ (hrow 5 _ rfl)
  have e6 : ∀ o1 o2 : Obj, ((W.alloc o1).alloc o2).cell? { block := (ad.add ((h.toNat - 1) * 16)).block, off := (ad.add ((h.toNat - 1) * 16)).off + 6 } = some (Value.slice A6 n6 m6) := fun o1 o2 => by rw [hadd 6 (by decide)]; exact hcell _ _ _ _ (hrow 6 _ rfl)
  have e7 : ∀ o1 o2 : Obj, ((W.alloc o1).alloc o2).cell? { block := (ad.add ((h.toNat - 1) * 16)).block, off := (ad.add ((h.toNat - 1) * 16)).off + 7 } = some (Value.slice A7 n7 m7) := fun o1 o2 => by rw [hadd 7 (by decide)]; exact hcell _ _ _ _ (hrow 7 _ rfl)
  have e8 : ∀ o1 o2 : Obj, ((W.alloc o1).alloc o2).cell? { block := (ad.add ((h.toNat - 1) * 16)).block, off := (ad.add ((h.toNat - 1) * 16)).off + 8 } = some (Value.int .i64 i8) := fun o1 o2 => by rw [hadd 8 (by decide)]; exact hcell _ _ _ _ (hrow 8 _ rfl)
  have e9 : ∀ o1 o2 : Obj, ((W.alloc o1).alloc o2).cell? { block := (ad.add ((h.toNat - 1) * 16)).block, off := (ad.add ((h.toNat - 1) * 16)).off + 9 } = some (Value.slice A9 n9 m9) := fun o1 o2 => by rw [hadd 9 (by decide)]; exact hcell _ _ _ _ (hrow 9 _ rfl)
  have e10 : ∀ o1 o2 : Obj, ((W.alloc o1).alloc o2).cell? { block := (ad.add ((h.toNat - 1) * 16)).block, off := (ad.add ((h.toNat - 1) * 16)).off + 10 } = some (Value.int .i64 i10) := fun o1 o2 => by rw [hadd 10 (by decide)]; exact hcell _ _ _ _ (hrow 10 _ rfl)
  have e11 : ∀ o1 o2 : Obj, ((W.alloc o1).alloc o2).cell? { block := (ad.add ((h.toNat - 1) * 16)).block, off := (ad.add ((h.toNat - 1) * 16)).off + 11 } = some (Value.int .i64 i11) := fun o1 o2 => by rw [hadd 11 (by decide)]; exact hcell _ _ _ _ (hrow 11 _ rfl)
  have e12 : ∀ o1 o2 : Obj, ((W.alloc o1).alloc o2).cell? { block := (ad.add ((h.toNat - 1) * 16)).block, off := (ad.add ((h.toNat - 1) * 16)).off + 12 } = some (Value.int .i64 i12) := fun o1 o2 => by rw [hadd 12 (by decide)]; exact hcell _ _ _ _ (hrow 12 _ rfl)
  have e13 : ∀ o1 o2 : Obj, ((W.alloc o1).alloc o2).cell? { block := (ad.add ((h.toNat - 1) * 16)).block, off := (ad.add ((h.toNat - 1) * 16)).off + 13 } = some (Value.int .u8 k13) := fun o1 o2 => by rw [hadd 13 (by decide)]; exact hcell _ _ _ _ (hrow 13 _ rfl)
  have e14 : ∀ o1 o2 : Obj, ((W.alloc o1).alloc o2).cell? { block := (ad.add ((h.toNat - 1) * 16)).block, off := (ad.add ((h.toNat - 1) * 16)).off + 14 } = some (Value.bool b14) := fun o1 o2 => by rw [hadd 14 (by decide)]; exact hcell _ _ _ _ (hrow 14 _ rfl)
  have e15 : ∀ o1 o2 : Obj, ((W.alloc o1).alloc o2).cell? { block := (ad.add ((h.toNat - 1) * 16)).block, off := (ad.add ((h.toNat - 1) * 16)).off + 15 } = some (Value.bool b15) := fun o1 o2 => by rw [hadd 15 (by decide)]; exact hcell _ _ _ _ (hrow 15 _ rfl)
  have hb : Below W.heap.size W W := Below.refl _ W
  clear hrow hcell hadd
  go_enter Tryz.func40, Tryz.ntmps40
  go_wp2
  refine ⟨rfl, _, results_cell_row (p := 4) (ty := 44) rfl _ _ (W.heap.size + 1) 44 _ (0, 0) _ rfl (heap_alloc2_new _ _ _) Tryz.underlying44 rfl (by kernel_rfl), rfl, ?_⟩
  exact ((Below.refl _ W).alloc (Nat.le_refl _) _).alloc (by simp) _
theorem qo0 (n : Nat) (hl : n ≤ 1000000000) (h : Int) (W : World) (A : Option Addr) (c : Nat) (hh : h < 1 ∨ (n : Int) < h) :
    Calls Tryz.prog 40 #[.agg #[.slice A n c], .int .i64 h] W fun e W' => e = .returned (.agg #[Value.int .u8 0, Value.string ⟨#[]⟩, Value.string ⟨#[]⟩, Value.string ⟨#[]⟩, Value.string ⟨#[]⟩, Value.string ⟨#[]⟩, Value.slice none 0 0, Value.slice none 0 0, Value.int .i64 0, Value.slice none 0 0, Value.int .i64 0, Value.int .i64 0, Value.int .i64 0, Value.int .u8 0, Value.bool false, Value.bool false]) ∧ Below W.heap.size W W' := by
  have hb : Below W.heap.size W W := Below.refl _ W
  by_cases h1 : h < 1
  · have d1 : decide (h < 1) = true := decide_eq_true h1
    go_enter Tryz.func40, Tryz.ntmps40
    go_wp2
    refine ⟨rfl, _, results_cell_row (p := 4) (ty := 44) rfl _ _ (W.heap.size + 1) 44 _ (0, 0) _ rfl (heap_alloc2_new _ _ _) Tryz.underlying44 rfl (by kernel_rfl), rfl, ?_⟩
    exact ((Below.refl _ W).alloc (Nat.le_refl _) _).alloc (by simp) _
  · have d1 : decide (h < 1) = false := decide_eq_false h1
    have d2 : decide ((n : Int) < h) = true := decide_eq_true (by omega)
    go_enter Tryz.func40, Tryz.ntmps40
    go_wp2
    refine ⟨rfl, _, results_cell_row (p := 4) (ty := 44) rfl _ _ (W.heap.size + 1) 44 _ (0, 0) _ rfl (heap_alloc2_new _ _ _) Tryz.underlying44 rfl (by kernel_rfl), rfl, ?_⟩
    exact ((Below.refl _ W).alloc (Nat.le_refl _) _).alloc (by simp) _
theorem qo1 (f : List Node) (hl : f.length ≤ 1000000000) (h : Int) (W : World) (N : Nat → Prop) (v : Value) (hv : RepI W N (.sl (f.map Node.iv)) v) :
    Calls Tryz.prog 40 #[.agg #[v], .int .i64 h] W fun e W' => ∃ xs : List Value, e = .returned (.agg xs.toArray) ∧ Below W.heap.size W W' ∧ All2 (RepI W N) (nodeAt f h).iv xs := by
  by_cases hin : inR f h
  · have i1 := hin.1
    have i2 := hin.2
    generalize hrs : f.map Node.iv = rs at hv
    cases hv with
    | nil A c =>
      have : f = [] := List.map_eq_nil_iff.1 hrs
      subst this
      simp at i2; omega
    | sl _ ad n c sz ys g0 hsz hn hc hb hrl hyc hrep =>
      subst hrs
      have hr : (f.map Node.iv)[(h - 1).toNat]? = some (nodeAt f h).iv := by
        rw [List.getElem?_map, qaz (by omega) (by omega), qaf hin]; rfl
      have esz : sz = 16 := (hrl _ (List.mem_of_getElem? hr)).symm
      subst esz
      have hrow := (hrep.drop ((h - 1).toNat * 16)).take 16
      rw [qcw hrl hr] at hrow
      have hyd : ∀ (j : Nat) (u : Value), ((ys.drop ((h - 1).toNat * 16)).take 16)[j]? = some u → W.cell? (ad.add ((h.toNat - 1) * 16 + j)) = some u := by
        intro j u hj
        rw [List.getElem?_take] at hj
        split at hj
        · rw [List.getElem?_drop] at hj
          rw [show h.toNat - 1 = (h - 1).toNat by omega]
          exact hyc _ u hj
        · cases hj
      generalize (ys.drop ((h - 1).toNat * 16)).take 16 = zs at hrow hyd
      obtain ⟨m, hm⟩ : ∃ m, m = nodeAt f h := ⟨_, rfl⟩
      rw [← hm] at hrow ⊢
      have hnl : n = f.length := by rw [hn, List.length_map]
      subst hnl
      have hrow' := hrow
      unfold Node.iv at hrow
      obtain ⟨_, _, rfl, q0, hrow⟩ := hrow.uncons
      obtain ⟨_, _, rfl, q1, hrow⟩ := hrow.uncons
      obtain ⟨_, _, rfl, q2, hrow⟩ := hrow.uncons
      obtain ⟨_, _, rfl, q3, hrow⟩ := hrow.uncons
      obtain ⟨_, _, rfl, q4, hrow⟩ := hrow.uncons
      obtain ⟨_, _, rfl, q5, hrow⟩ := hrow.uncons
      obtain ⟨_, _, rfl, q6, hrow⟩ := hrow.uncons
      obtain ⟨_, _, rfl, q7, hrow⟩ := hrow.uncons
      obtain ⟨_, _, rfl, q8, hrow⟩ := hrow.uncons
      obtain ⟨_, _, rfl, q9, hrow⟩ := hrow.uncons
      obtain ⟨_, _, rfl, q10, hrow⟩ := hrow.uncons
      obtain ⟨_, _, rfl, q11, hrow⟩ := hrow.uncons
      obtain ⟨_, _, rfl, q12, hrow⟩ := hrow.uncons
      obtain ⟨_, _, rfl, q13, hrow⟩ := hrow.uncons
      obtain ⟨_, _, rfl, q14, hrow⟩ := hrow.uncons
      obtain ⟨_, _, rfl, q15, hrow⟩ := hrow.uncons
      cases hrow
      obtain rfl := q0.int_inv
      obtain rfl := q1.str_inv
      obtain rfl := q2.str_inv
      obtain rfl := q3.str_inv
      obtain rfl := q4.str_inv
      obtain rfl := q5.str_inv
      obtain ⟨_, _, rfl, _⟩ := q6.sl_inv
      obtain ⟨_, _, rfl, _⟩ := q7.sl_inv
      obtain rfl := q8.int_inv
      obtain ⟨_, _, rfl, _⟩ := q9.sl_inv
      obtain rfl := q10.int_inv
      obtain rfl := q11.int_inv
      obtain rfl := q12.int_inv
      obtain rfl := q13.int_inv
      obtain rfl := q14.bool_inv
      obtain rfl := q15.bool_inv
      exact (qpd f hl h W ad c i1 i2 _ _ _ _ _ _ _ _ _ _ _ _ _ _ _ _ _ _ _ _ _ _ hyd).mono fun e W' ⟨h1, h2⟩ => ⟨_, h1, h2, hrow'⟩
  · obtain ⟨A, c, rfl, _⟩ := hv.sl_inv
    have := qo0 (f.map Node.iv).length (by rw [List.length_map]; exact hl) h W A c (by rw [List.length_map]; unfold inR at hin; omega)
    refine this.mono fun e W' ⟨h1, h2⟩ => ⟨_, h1, h2, ?_⟩
    rw [qa2 hin]
    exact .cons (.int _ _) (.cons (.str _) (.cons (.str _) (.cons (.str _) (.cons (.str _) (.cons (.str _) (.cons (.nil _ _) (.cons (.nil _ _) (.cons (.int _ _) (.cons (.nil _ _) (.cons (.int _ _) (.cons (.int _ _) (.cons (.int _ _) (.cons (.int _ _) (.cons (.bool _) (.cons (.bool _) .nil)))))))))))))))
attribute [local go_sem] Oper.semAt_some
def withinL (f : List Node) : Nat → Int → List Int
  | 0, _ => []
  | m + 1, h => h :: (nodeAt f h).kids.flatMap (withinL f m)
def Hgt (f : List Node) : Nat → Int → Prop
  | 0, _ => False
  | m + 1, h => ∀ k ∈ (nodeAt f h).kids, Hgt f m k
theorem rmOf {F : Fence} (hd : F.depth = none) (k : Nat) : F.room k := fun d h => by rw [hd] at h; cases h
theorem roundAny {F : Fence} (hd : F.depth = none) {m m' : Nat} {P : Program} {l : Nat} {f : FuncId} {tmps : Array Value} {assign body : Code} {w : World} {R : Ending → World → Prop}
    (h : RoundIn F m P l f tmps assign body w R) : RoundIn F m' P l f tmps assign body w R := ⟨h.1, fun c cs _ => h.2 c cs (rmOf hd _)⟩
theorem yieldAny {F : Fence} (hd : F.depth = none) {m : Nat} (m' : Nat) {P : Program} {l : Nat} {args : Array Value} {W : World} {R : Ending → World → Prop} (h : YieldAt F m P l args W R) : YieldAt F m' P l args W R := by
  obtain ⟨fn, tmps, assign, body, hy, hR⟩ := h
  exact ⟨fn, tmps, assign, body, hy, roundAny hd hR⟩
theorem RepI.kpm {tys : List TypeId} {B : Nat} {M N : Nat → Prop} (hN : ∀ b, ¬ N b → b < B ∧ ¬ M b) {W W' : World} (hk : KpM tys B M W W') {v : IV} {x : Value} (h : RepI W N v x) : RepI W' N v x :=
  h.keep fun b hb _ => ⟨hk.same b (hN b hb).1 (hN b hb).2, hb⟩
theorem ql0 (f : List Node) (hl : f.length ≤ 1000000000) (h : Int) (W : World) (N : Nat → Prop) (v : Value) (hv : RepI W N (.sl (f.map Node.iv)) v) :
    Calls Tryz.prog 40 #[.agg #[v], .int .i64 h] W fun e W' => ∃ (a0 a1 a2 a3 a4 a5 a6 a7 a8 a10 a11 a12 a13 a14 a15 : Value) (A : Option Addr) (c : Nat), e = .returned (.agg #[a0, a1, a2, a3, a4, a5, a6, a7, a8, .slice A (nodeAt f h).kids.length c, a10, a11, a12, a13, a14, a15]) ∧ Below W.heap.size W W' ∧ RepI W N (.sl ((nodeAt f h).kids.map i64)) (.slice A (nodeAt f h).kids.length c) := by
  refine (qo1 f hl h W N v hv).mono ?_
  rintro e W' ⟨xs, rfl, hb, hr⟩
  unfold Node.iv at hr
  obtain ⟨_, _, rfl, q0, hr⟩ := hr.uncons
  obtain ⟨_, _, rfl, q1, hr⟩ := hr.uncons
  obtain ⟨_, _, rfl, q2, hr⟩ := hr.uncons
  obtain ⟨_, _, rfl, q3, hr⟩ := hr.uncons
  obtain ⟨_, _, rfl, q4, hr⟩ := hr.uncons
  obtain ⟨_, _, rfl, q5, hr⟩ := hr.uncons
  obtain ⟨_, _, rfl, q6, hr⟩ := hr.uncons
  obtain ⟨_, _, rfl, q7, hr⟩ := hr.uncons
  obtain ⟨_, _, rfl, q8, hr⟩ := hr.uncons
  obtain ⟨_, _, rfl, q9, hr⟩ := hr.uncons
  obtain ⟨_, _, rfl, q10, hr⟩ := hr.uncons
  obtain ⟨_, _, rfl, q11, hr⟩ := hr.uncons
  obtain ⟨_, _, rfl, q12, hr⟩ := hr.uncons
  obtain ⟨_, _, rfl, q13, hr⟩ := hr.uncons
  obtain ⟨_, _, rfl, q14, hr⟩ := hr.uncons
  obtain ⟨_, _, rfl, q15, hr⟩ := hr.uncons
  cases hr
  obtain ⟨A, c, rfl, _⟩ := q9.sl_inv
  rw [List.length_map] at q9
  exact ⟨_, _, _, _, _, _, _, _, _, _, _, _, _, _, _, A, c, by rw [List.length_map], hb, q9⟩
theorem field7 (a0 a1 a2 a3 a4 a5 a6 a7 a8 x a10 a11 a12 a13 a14 a15 : Value) (W : World) : (Instr.field 44 (.agg #[a0, a1, a2, a3, a4, a5, a6, a7, a8, x, a10, a11, a12, a13, a14, a15]) 7).run Tryz.prog W = .ok x W := by
  obtain ⟨fs, fd, h1, h2, h3, h4, h5⟩ := tk44.fld (f := 7) rfl (show ti44.flds[7]? = some (9, 1, false) from rfl)
  exact qdo h1 h2 (qey (h5 W) [a0, a1, a2, a3, a4, a5, a6, a7, a8, x, a10, a11, a12, a13, a14, a15] _ (by rw [h3]; rfl))
theorem RepI.cell1 {W : World} {N : Nat → Prop} {l : List Int} {A : Option Addr} {n c : Nat} (h : RepI W N (.sl (l.map i64)) (.slice A n c)) {i : Nat} {k : Int} (hk : l[i]? = some k) : ∃ ad, A = some ad ∧ W.cell? (ad.add i) = some (.int .i64 k) := by
  have hrow : (l.map i64)[i]? = some (i64 k) := by rw [List.getElem?_map, hk]; rfl
  generalize l.map i64 = rs at h hrow
  cases h with
  | nil => simp at hrow
  | sl _ ad _ _ sz ys g0 hsz hn hc hb hrl hyc hrep =>
    refine ⟨ad, rfl, ?_⟩
    have e1 : sz = 1 := (hrl _ (List.mem_of_getElem? hrow)).symm
    subst e1
    have := (hrep.drop (i * 1)).take 1
    rw [qcw hrl hrow] at this
    obtain ⟨x, zs, h1, h2, _⟩ := this.uncons
    obtain rfl := h2.int_inv
    have h3 : ys[i]? = some (.int .i64 k) := by
      have := congrArg (fun l => l[0]?) h1
      simp only [List.getElem?_cons_zero] at this
      rw [List.getElem?_take_of_lt (by omega), List.getElem?_drop] at this
      simpa using this
    exact hyc i _ h3
def muW (K : Nat) (a : Act) : Nat := K - (match a.tmps.getD 18 undef with | .int _ i => i.toNat | _ => 0)
theorem qc9 {B1 : Nat} {J : List Int → World → Prop} (hJ : AbidesFrom B1 J) {pre : List Int} {W W' : World} (h : J pre W) (hb : Below W.heap.size W W') : J pre W' :=
  hJ pre W W' none h ⟨hb.os, hb.tape, hb.output, hb.size, fun k hk _ => hb.block k hk⟩ (fun r e => by cases e)
theorem qke {f : List Node} (hl : f.length ≤ 1000000000) (hkl : ∀ h, (nodeAt f h).kids.length ≤ 1000000000) {tys : List TypeId} (h24 : 24 ∉ tys) (B0 : Nat) (M N : Nat → Prop) (hN : ∀ b, ¬ N b → b < B0 ∧ ¬ M b) (l NN B1 : Nat) (J Jx : List Int → World → Prop) (hJ : AbidesFrom B1 J)
    (hY : ∀ pre x W, J pre W → pre.length < NN → YieldAt Fence.wide 0 Tryz.prog l #[.int .i64 x] W fun e W' => (e = .returned (.bool true) ∧ J (pre ++ [x]) W' ∧ KpM tys B0 M W W') ∨ (e = .returned (.bool false) ∧ Jx (pre ++ [x]) W')) :
    ∀ (m : Nat) (h : Int) (n : Nat) (pre : List Int) (W : World) (v : Value), Hgt f m h → B0 ≤ W.heap.size → RepI W N (.sl (f.map Node.iv)) v → J pre W → pre.length + (withinL f m h).length ≤ NN →
      CallsIn Fence.wide n Tryz.prog 98 #[.agg #[v], .int .i64 h, .func (.yield l) #[] #[]] W fun e W' => (e = .returned (.bool true) ∧ J (pre ++ withinL f m h) W' ∧ KpM tys B0 M W W') ∨ (e = .returned (.bool false) ∧ ∃ q, q <+: withinL f m h ∧ Jx (pre ++ q) W') := by
  intro m
  induction m with
  | zero => intro h n pre W v hH; exact hH.elim
  | succ m ih =>
    intro h n pre W v hH hB0 hv hJ0 hlen
    have hdd : ∀ k : Nat, (Fence.wide.depth.isSome = true → 1 ≤ k) := fun k h => by simp [Fence.wide] at h
    have hJ1 : J pre (W.alloc (.cells #[v] 24)) := qc9 hJ hJ0 ((Below.refl _ W).alloc (Nat.le_refl _) _)
    have hy := yieldAny (m' := n - 1) rfl (hY pre h _ hJ1 (by simp only [withinL, List.length_cons] at hlen; omega))
    have hy1 := hy.mono (R' := fun e W1 => (e = .returned (.bool true) ∧ W1.cell? ⟨W.heap.size, 0, none⟩ = some v ∧ CallsIn Fence.wide (n - 1) Tryz.prog 40 #[.agg #[v], .int .i64 h] W1 fun e W2 =>
        ∃ (a0 a1 a2 a3 a4 a5 a6 a7 a8 a10 a11 a12 a13 a14 a15 : Value) (A : Option Addr) (c : Nat), e = .returned (.agg #[a0, a1, a2, a3, a4, a5, a6, a7, a8, .slice A (nodeAt f h).kids.length c, a10, a11, a12, a13, a14, a15]) ∧ J (pre ++ [h]) W2 ∧ KpM tys B0 M W W2 ∧ W2.heap[W.heap.size]? = some (.cells #[v] 24 (0, 0)) ∧ RepI W2 N (.sl ((nodeAt f h).kids.map i64)) (.slice A (nodeAt f h).kids.length c)) ∨ (e = .returned (.bool false) ∧ Jx (pre ++ [h]) W1)) (by
      rintro e W1 (⟨rfl, hj, hk⟩ | ⟨rfl, hx⟩)
      · have hk0 : KpM tys B0 M W (W.alloc (.cells #[v] 24)) := KpM.below ((Below.refl _ W).alloc (Nat.le_refl _) _) hB0
        have hbx : W1.heap[W.heap.size]? = some (.cells #[v] 24 (0, 0)) := hk.cells _ _ _ _ (qv W _) h24
        refine .inl ⟨rfl, by simp [World.cell?, hbx], ?_⟩
        have hv1 := hv.kpm hN (hk0.trans hk)
        refine ((callsIn_wide (n := n - 1)).2 (ql0 f hl h W1 N v hv1)).mono ?_
        rintro e W2 ⟨a0, a1, a2, a3, a4, a5, a6, a7, a8, a10, a11, a12, a13, a14, a15, A, c, rfl, hb, hr⟩
        have hk2 : KpM tys B0 M W1 W2 := KpM.below hb (Nat.le_trans hB0 (hk0.trans hk).size)
        exact ⟨a0, a1, a2, a3, a4, a5, a6, a7, a8, a10, a11, a12, a13, a14, a15, A, c, rfl, qc9 hJ hj hb, (hk0.trans hk).trans hk2, hk2.cells _ _ _ _ hbx h24, hr.kpm hN hk2⟩
      · exact .inr ⟨rfl, hx⟩)
    clear hy
    obtain ⟨fn, tmps, assign, body, hyr, hR⟩ := hy1
    have hfd := field7
    refine callsIn_of_wp Tryz.func98 rfl trivial ?_ rfl
    simp only [Tryz.ntmps98, List.size_toArray, List.length_cons, List.length_nil, Nat.reduceAdd, Nat.reduceSub, Array.replicate_succ, Array.replicate_zero, List.push_toArray, List.append_toArray, List.nil_append, List.cons_append]
    gi_wp2_with (first
      | ((try refine ⟨hdd _, ?_⟩); refine hR.mono ?_; clear hR; rintro e W1 (⟨rfl, hc1, hat⟩ | ⟨rfl, hx1⟩))
      | ((try refine ⟨trivial, hdd _, ?_⟩); gi_at_call 40; refine hat.mono ?_; clear hat; rintro e W2 ⟨a0, a1, a2, a3, a4, a5, a6, a7, a8, a10, a11, a12, a13, a14, a15, A, c, rfl, hJ2, hk2, hbx2, hr2⟩))
    · have hb2 := hk2.size
      refine wpIn_loop (fun a W' => ∃ (i : Nat) (x8 x19 x20 x21 x22 x23 x24 x25 x26 x27 : Value), i ≤ (nodeAt f h).kids.length ∧ a = { tmps := #[Value.agg #[v], Value.int IntKind.i64 h, Value.func (Fn.yield l) #[] #[], Value.pointer (some { block := W.heap.size, off := 0 }), undef, undef, Value.bool false, undef, x8, Value.func (Fn.yield l) #[] #[], Value.int IntKind.i64 h, Value.bool true, Value.bool false, Value.agg #[v], Value.int IntKind.i64 h,
          Value.agg #[a0, a1, a2, a3, a4, a5, a6, a7, a8, Value.slice A (nodeAt f h).kids.length c, a10, a11, a12, a13, a14, a15], Value.slice A (nodeAt f h).kids.length c, Value.int IntKind.i64 (nodeAt f h).kids.length, Value.int IntKind.i64 i, x19, x20, x21, x22, x23, x24, x25, x26, x27], defers := [] } ∧
          J (pre ++ h :: ((nodeAt f h).kids.take i).flatMap (withinL f m)) W' ∧ KpM tys B0 M W W' ∧ W'.heap[W.heap.size]? = some (.cells #[v] 24 (0, 0)) ∧ RepI W' N (.sl ((nodeAt f h).kids.map i64)) (.slice A (nodeAt f h).kids.length c))
        (fun a _ => muW (nodeAt f h).kids.length a) ⟨0, _, _, _, _, _, _, _, _, _, _, Nat.zero_le _, rfl, by simpa using hJ2, hk2, hbx2, hr2⟩ ?_
      rintro a W3 ⟨i, x8, x19, x20, x21, x22, x23, x24, x25, x26, x27, hi, rfl, hJ3, hk3, hbx3, hr3⟩
      have hc3 : W3.cell? ⟨W.heap.size, 0, none⟩ = some v := by simp [World.cell?, hbx3]
      by_cases hlt : i < (nodeAt f h).kids.length
      · have d1 : decide ((i : Int) < ((nodeAt f h).kids.length : Int)) = true := decide_eq_true (by omega)
        obtain ⟨k, hk⟩ : ∃ k, (nodeAt f h).kids[i]? = some k := ⟨_, List.getElem?_eq_getElem (by omega)⟩
        obtain ⟨ad, hA, hcell⟩ := hr3.cell1 hk
        subst hA
        have hnx : (nodeAt f h).kids.take (i + 1) = (nodeAt f h).kids.take i ++ [k] := by
          rw [List.take_add_one, hk]; rfl
        have hmem : k ∈ (nodeAt f h).kids := List.mem_of_getElem? hk
        have hlen3 : (pre ++ h :: ((nodeAt f h).kids.take i).flatMap (withinL f m)).length + (withinL f m k).length ≤ NN := by
          have e : (nodeAt f h).kids = (nodeAt f h).kids.take i ++ k :: (nodeAt f h).kids.drop (i + 1) := by
            conv => lhs; rw [← List.take_append_drop i (nodeAt f h).kids]
            rw [List.drop_eq_getElem_cons (by omega)]
            congr 2
            exact (List.getElem?_eq_some_iff.1 hk).2
          simp only [withinL, List.length_cons] at hlen
          rw [e] at hlen
          simp only [List.flatMap_append, List.flatMap_cons, List.length_append] at hlen
          simp only [List.length_append, List.length_cons]
          omega
        have hcall := (ih k (n - 1) _ W3 v (hH k hmem) (Nat.le_trans hB0 hk3.size) (hv.kpm hN hk3) hJ3 hlen3).mono (R' := fun e W4 => (e = .returned (.bool true) ∧ J (pre ++ h :: ((nodeAt f h).kids.take (i + 1)).flatMap (withinL f m)) W4 ∧ KpM tys B0 M W W4 ∧ W4.heap[W.heap.size]? = some (.cells #[v] 24 (0, 0)) ∧ RepI W4 N (.sl ((nodeAt f h).kids.map i64)) (.slice (some ad) (nodeAt f h).kids.length c)) ∨ (e = .returned (.bool false) ∧ ∃ q, q <+: withinL f (m + 1) h ∧ Jx (pre ++ q) W4)) (by
          rintro e W4 (⟨rfl, hj, hk4⟩ | ⟨rfl, q, hq, hx⟩)
          · refine .inl ⟨rfl, ?_, hk3.trans hk4, hk4.cells _ _ _ _ hbx3 h24, hr3.kpm hN hk4⟩
            rw [hnx, List.flatMap_append]
            simpa [List.append_assoc] using hj
          · refine .inr ⟨rfl, h :: ((nodeAt f h).kids.take i).flatMap (withinL f m) ++ q, ?_, by simpa [List.append_assoc] using hx⟩
            obtain ⟨r, hr⟩ := hq
            refine ⟨r ++ ((nodeAt f h).kids.drop (i + 1)).flatMap (withinL f m), ?_⟩
            have e : (nodeAt f h).kids = (nodeAt f h).kids.take i ++ k :: (nodeAt f h).kids.drop (i + 1) := by
              conv => lhs; rw [← List.take_append_drop i (nodeAt f h).kids]
              rw [List.drop_eq_getElem_cons (by omega)]
              congr 2
              exact (List.getElem?_eq_some_iff.1 hk).2
            simp only [withinL]
            conv => rhs; rw [e]
            simp only [List.flatMap_append, List.flatMap_cons, ← hr, List.cons_append, List.append_assoc])
        gi_wp2_with ((try refine ⟨trivial, hdd _, ?_⟩); gi_at_call 98; refine hcall.mono ?_; clear hcall; rintro e W4 (⟨rfl, hJ4, hk4, hbx4, hr4⟩ | ⟨rfl, q, hq, hx⟩))
        · have hw : wrap64 ((i : Int) + 1) = ((i + 1 : Nat) : Int) := by
            have := hkl h
            unfold wrap64
            omega
          rw [hw]
          clear hw
          refine ⟨⟨i + 1, .int .i64 k, .bool true, .pointer (some (ad.add i)), .int .i64 k, .agg #[v], .int .i64 k, .func (.yield l) #[] #[], .bool true, .bool false, .int .i64 ((i + 1 : Nat) : Int), Nat.succ_le_of_lt hlt, rfl, hJ4, hk4, hbx4, hr4⟩, ?_⟩
          exact Nat.sub_lt_sub_left hlt (Nat.lt_succ_self i)
        · exact ⟨rfl, _, results_tmp rfl _ _ _, .inr ⟨rfl, q, hq, hx⟩⟩
      · have d1 : decide ((i : Int) < ((nodeAt f h).kids.length : Int)) = false := decide_eq_false (by omega)
        gi_wp2
        refine ⟨rfl, _, results_tmp rfl _ _ _, .inl ⟨rfl, ?_, hk3⟩⟩
        rw [List.take_of_length_le (by omega)] at hJ3
        exact hJ3
    · refine ⟨rfl, _, results_tmp rfl _ _ _, .inr ⟨rfl, [h], ⟨(nodeAt f h).kids.flatMap (withinL f m), by simp [withinL]⟩, hx1⟩⟩
attribute [local go_sem] Oper.semAt_some
theorem RepA.pin1 {M : Mm} {v : IV} {x : Value} (h : RepA M (.pin [v]) x) : ∃ (ad : Addr) (y : Value), x = .pointer (some ad) ∧ ¬ M.N ad.block ∧ M.W.cell? ad = some y ∧ RepI M.W M.N v y := by
  cases h with
  | pin _ ad ys h0 hb hy h =>
    obtain ⟨y, zs, rfl, h1, h2⟩ := h.uncons
    refine ⟨ad, y, rfl, hb, ?_, h1⟩
    exact hy 0 y rfl
theorem qkf {f : List Node} (hl : f.length ≤ 1000000000) (l : Nat) (h : Int) (n : Nat) (W : World) (ad1 ad2 : Addr) (v : Value) (hc1 : W.cell? ad1 = some v) (hc2 : W.cell? ad2 = some (.int .i64 h)) {R : Ending → World → Prop}
    (hcall : CallsIn Fence.wide (n - 1) Tryz.prog 98 #[.agg #[v], .int .i64 h, .func (.yield l) #[] #[]] W fun e W' => (e = .returned (.bool true) ∨ e = .returned (.bool false)) ∧ R (.returned (.tuple #[])) W') :
    CallsIn Fence.wide n Tryz.prog 97 #[.func (.yield l) #[] #[], .pointer (some ad1), .pointer (some ad2)] W fun e W' => (∃ v, e = .returned v) ∧ R (.returned (.tuple #[])) W' := by
  have hdd : ∀ k : Nat, (Fence.wide.depth.isSome = true → 1 ≤ k) := fun k h => by simp [Fence.wide] at h
  refine callsIn_of_wp Tryz.func97 rfl trivial ?_ rfl
  simp only [Tryz.ntmps97, List.size_toArray, List.length_cons, List.length_nil, Nat.reduceAdd, Nat.reduceSub, Array.replicate_succ, Array.replicate_zero, List.push_toArray, List.append_toArray, List.nil_append, List.cons_append]
  gi_wp2_with ((try refine ⟨trivial, hdd _, ?_⟩); gi_at_call 98; refine hcall.mono ?_; clear hcall; rintro e W1 ⟨(rfl | rfl), hR⟩)
  · go_end0
    exact ⟨⟨_, rfl⟩, hR⟩
  · go_end0
    exact ⟨⟨_, rfl⟩, hR⟩
theorem iter97 {f : List Node} (hl : f.length ≤ 1000000000) (hkl : ∀ h, (nodeAt f h).kids.length ≤ 1000000000) {tys : List TypeId} (h24 : 24 ∉ tys) (hp : List Blk) (m : Nat) (h : Int) (hH : Hgt f m h) : IterC Tryz.prog tys 97 hp [.pin [.sl (f.map Node.iv)], .pin [.int .i64 h]] (withinL f m h) := by
  refine ⟨enters_of Tryz.func97 (by kernel_rfl) rfl, ?_⟩
  intro n W X γ κ lb hC hlb
  obtain ⟨x1, _, rfl, q1, hlb⟩ := hlb.uncons
  obtain ⟨x2, _, rfl, q2, hlb⟩ := hlb.uncons
  cases hlb
  obtain ⟨ad1, v, rfl, n1, c1, r1⟩ := q1.pin1
  obtain ⟨ad2, w, rfl, n2, c2, r2⟩ := q2.pin1
  obtain rfl := r2.int_inv
  intro l J Jx W1 hbel hJ hJx hY h0
  obtain ⟨o1, ho1⟩ := qbq c1
  obtain ⟨o2, ho2⟩ := qbq c2
  have hc1 : W1.cell? ad1 = some v := (hbel.cell (p := ad1) (Array.getElem?_eq_some_iff.1 ho1).1).trans c1
  have hc2 : W1.cell? ad2 = some (.int .i64 h) := (hbel.cell (p := ad2) (Array.getElem?_eq_some_iff.1 ho2).1).trans c2
  have hv : RepI W1 (fun b => W.heap.size ≤ b ∨ nset X γ hp.length b) (.sl (f.map Node.iv)) v := by
    refine r1.keep fun b hb ⟨o, ho⟩ => ?_
    have hlt := (Array.getElem?_eq_some_iff.1 ho).1
    refine ⟨hbel.block b hlt, ?_⟩
    rintro (h1 | h1)
    · have hlt' : b < W.heap.size := hlt
      omega
    · exact hb h1
  have hcall := qke hl hkl h24 W.heap.size (ownOf ⟨[], hp⟩ γ) (fun b => W.heap.size ≤ b ∨ nset X γ hp.length b) (fun b hb => ⟨by
      apply Classical.byContradiction
      intro hx
      exact hb (.inl (by omega)), fun hM => hb (.inr (.inr hM))⟩) l (withinL f m h).length W1.heap.size J Jx hJ
    (fun pre x W2 hj hlt => yieldAny rfl 0 (hY pre x W2 hj hlt)) m h (n - 1) [] W1 v hH hbel.size hv h0 (by simp)
  have := qkf hl l h n W1 ad1 ad2 v hc1 hc2 (R := fun _ W' => (∃ xs, xs = withinL f m h ∧ J xs W') ∨ (∃ pre, pre <+: withinL f m h ∧ Jx pre W')) (hcall.mono (by
    rintro e W' (⟨rfl, hj, _⟩ | ⟨rfl, q, hq, hx⟩)
    · exact ⟨.inl rfl, .inl ⟨_, rfl, by simpa using hj⟩⟩
    · exact ⟨.inr rfl, .inr ⟨q, hq, by simpa using hx⟩⟩))
  exact this
end Go.Proofs.YtmhejcnaanocpaaGreat.A
