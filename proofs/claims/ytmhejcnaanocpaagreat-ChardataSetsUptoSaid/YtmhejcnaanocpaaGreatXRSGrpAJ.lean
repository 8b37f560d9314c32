/- Contracts: the small functions of package forest. -/
import Derived.Test.YtmhejcnaanocpaaGreatXRSGrpAH
import Derived.Test.YtmhejcnaanocpaaGreatXRSGrpAI
namespace Go.Proofs.YtmhejcnaanocpaaGreat.A
set_option linter.unusedVariables false
set_option linter.unusedSimpArgs false
set_option maxRecDepth 100000
theorem qg {α : Type} [Inhabited α] {l : List α} {i : Int} (h0 : 0 ≤ i) (h1 : i < l.length) : l.take (i + 1).toNat = l.take i.toNat ++ [atI l i] := by
  rw [show (i + 1).toNat = i.toNat + 1 by omega, List.take_succ_eq_append_getElem (by omega)]
  unfold atI
  rw [List.getD_eq_getElem?_getD, List.getElem?_eq_getElem (by omega)]
  rfl
theorem qo {α : Type} {l : List α} {i : Int} (h : l.length ≤ i) : l.take i.toNat = l := List.take_of_length_le (by omega)
theorem qau {α : Type} [Inhabited α] {l : List α} {i : Int} (h0 : 0 ≤ i) (h1 : i < l.length) : atI l i ∈ l := List.mem_of_getElem? (qat h0 h1)
def nodeAt (f : List Node) (h : Int) : Node := if 1 ≤ h ∧ h ≤ f.length then atI f (h - 1) else n0
def inB (f : List Node) (h : Int) : Bool := decide (1 ≤ h ∧ h ≤ f.length)
theorem at_c (f : List Node) (h : Int) (hl : f.length ≤ 1000000000) : PureC Tryz.prog 145 [fav f, iav h] (.tup [(nodeAt f h).av, bav (inB f h)]) := by
  unfold nodeAt inB
  refine yp tabs Tryz.func145 22 _ rfl rfl rfl rfl rfl ?_
  intro w0 X
  (repeat' (first | ((with_reducible show AL _ _ _ _ _); first | (refine yf tabs rfl ?_; try dsimp only [len, List.nil_append, List.cons_append]) | refine yn ?_ | (refine yq rfl rfl rfl (fun hc => ?_) (fun hc => ?_) <;> (fail_if_success (exact absurd hc (by decide))) <;> (try simp only [hsx] at hc) <;> (try first | omega | contradiction | (simp [qa] at hc; done))) | (refine AL.op rfl (yj rfl rfl rfl rfl rfl (by omega) (by omega)) ?_) | (refine AL.op rfl (ye tabs rfl rfl rfl rfl rfl rfl rfl (fun _ => rfl) (by decide) (by omega) (by omega)) ?_)) | refine ym ?_ | refine ya ?_ | refine yb ?_ | refine yg ?_ | refine yi rfl ?_ | refine yh rfl ?_ | (refine yk rfl (fun hc => ?_) (fun hc => ?_) <;> (try simp only [hsx] at hc) <;> (try first | omega | contradiction | (simp [qa] at hc; done))) | refine yo ?_ | refine yc ?_))
  · rw [if_neg (by omega), show decide (1 ≤ h ∧ h ≤ f.length) = false by simp; omega]
    exact RQ.fin rfl rfl rfl
  · rw [if_neg (by omega), show decide (1 ≤ h ∧ h ≤ f.length) = false by simp; omega]
    exact RQ.fin rfl rfl rfl
  · rw [if_pos (by omega), show decide (1 ≤ h ∧ h ≤ f.length) = true by simp; omega]
    exact RQ.fin rfl rfl rfl
theorem ql8 (f : List Node) (h : Int) (hl : f.length ≤ 1000000000) : PureC Tryz.prog 147 [fav f, iav h] (kav (nodeAt f h).kind) := by
  refine yp tabs Tryz.func147 15 _ rfl rfl rfl rfl rfl ?_
  intro w0 X
  (repeat' (first | ((with_reducible show AL _ _ _ _ _); first | (refine yf tabs rfl ?_; try dsimp only [len, List.nil_append, List.cons_append]) | refine AL.op rfl (yd rfl rfl rfl rfl (at_c _ _ hl) rfl) ?_ | refine yn ?_) | refine ym ?_ | refine ya ?_ | refine yb ?_ | refine yg ?_ | refine yo ?_ | refine yc ?_))
  exact RQ.fin rfl rfl rfl
def aboveOf (n : Node) : Int := if n.kind = 12 then n.host else n.parent
theorem qms (n : Node) : PureC Tryz.prog 140 [n.av] (iav (aboveOf n)) := by
  refine yp tabs Tryz.func140 10 _ rfl rfl rfl rfl rfl ?_
  intro w0 X
  unfold aboveOf
  (repeat' (first | ((with_reducible show AL _ _ _ _ _); first | (refine yf tabs rfl ?_; try dsimp only [len, List.nil_append, List.cons_append]) | refine yn ?_) | refine ym ?_ | refine ya ?_ | refine yb ?_ | refine yg ?_ | refine yi rfl ?_ | refine yh rfl ?_ | (refine yk rfl (fun hc => ?_) (fun hc => ?_) <;> (try simp only [hsx] at hc) <;> (try first | omega | contradiction | (simp [qa] at hc; done))) | refine yo ?_ | refine yc ?_))
  · rw [if_pos hc]; exact RQ.fin rfl rfl rfl
  · rw [if_neg hc]; exact RQ.fin rfl rfl rfl
def sr (s : ByteArray) : List IV := [.str s]
def shortB (l : List ByteArray) : Bool := l.all fun s => decide (s.size ≤ 1024)
theorem qf2 (l : List ByteArray) (hl : l.length ≤ 1000000000) : PureC Tryz.prog 144 [.imm (.sl (l.map sr))] (bav (shortB l)) := by
  refine yp tabs Tryz.func144 15 _ rfl rfl rfl rfl rfl ?_
  intro w0 X
  (repeat' (first | ((with_reducible show AL _ _ _ _ _); first | (refine yf tabs rfl ?_; try dsimp only [len, List.nil_append, List.cons_append]) | refine yn ?_ | (refine AL.op rfl (yj rfl rfl rfl rfl rfl (by omega) (by omega)) ?_) | (refine AL.op rfl (ye tabs rfl rfl rfl rfl rfl rfl rfl (fun _ => rfl) (by decide) (by omega) (by omega)) ?_)) | fail | refine ym ?_ | refine ya ?_ | refine yb ?_ | refine yg ?_ | refine AW.block ?_ | refine yy ?_ | refine yi rfl ?_ | refine yh rfl ?_ | (refine yk rfl (fun hc => ?_) (fun hc => ?_) <;> (try simp only [hsx] at hc) <;> (try first | omega | contradiction | (simp [qa] at hc; done))) | refine yo ?_ | refine yaa ?_ | refine yc ?_ | refine yt ?_ | refine yab ?_ | refine yx ?_ | refine InB.off rfl ?_ | refine yaf ?_ | refine yac ?_))
  refine yao (α := Int) (fun i => ⟨[(5, .imm (.sl (l.map sr))), (6, iav (l.map sr).length), (7, iav i)], []⟩) (fun i => 0 ≤ i ∧ i ≤ l.length ∧ shortB (l.take i.toNat) = true) (fun i => (l.length - i).toNat) 0 (yag 0 rfl ⟨rfl, rfl, rfl, trivial⟩ rfl rfl (Nat.zero_le _)) ⟨by omega, by omega, rfl⟩ ?_
  intro i ⟨h0, h1, h2⟩
  (repeat' (first | ((with_reducible show AL _ _ _ _ _); first | (refine yf tabs rfl ?_; try dsimp only [len, List.nil_append, List.cons_append]) | refine yn ?_ | (refine AL.op rfl (yj rfl rfl rfl rfl rfl (by omega) (by omega)) ?_) | (refine AL.op rfl (ye tabs rfl rfl rfl rfl rfl rfl rfl (fun _ => rfl) (by decide) (by omega) (by omega)) ?_)) | refine ym ?_ | refine ya ?_ | refine yb ?_ | refine yg ?_ | refine AW.block ?_ | refine yy ?_ | refine yi rfl ?_ | refine yh rfl ?_ | (refine yk rfl (fun hc => ?_) (fun hc => ?_) <;> (try simp only [hsx] at hc) <;> (try first | omega | contradiction | (simp [qa] at hc; done))) | refine yo ?_ | refine yaa ?_ | refine yc ?_ | refine yt ?_ | refine yab ?_ | refine yx ?_ | refine InB.off rfl ?_ | refine yaf ?_ | refine yac ?_))
  · have e : shortB l = false := by
      unfold shortB
      rw [List.all_eq_false]
      exact ⟨_, qau h0 (by assumption), by simp; omega⟩
    rw [e]; exact RQ.fin rfl rfl rfl
  · refine yak (i + 1) (yag 0 rfl ⟨rfl, rfl, rfl, trivial⟩ rfl rfl (Nat.zero_le _)) ⟨by omega, by omega, ?_⟩ (by omega)
    rw [qg h0 (by assumption)]
    unfold shortB at h2 ⊢
    rw [List.all_append, h2]
    simp; omega
  · rw [qo hc] at h2
    rw [h2]; exact RQ.fin rfl rfl rfl
noncomputable def namedB (n : Name) : Bool := !dec (n.lc = es) && shortB [n.sp, n.pf, n.lc] && (dec (n.pf = es) || !dec (n.sp = es))
theorem qii (n : Name) : PureC Tryz.prog 175 [n.av] (bav (namedB n)) := by
  refine yp tabs Tryz.func175 26 _ rfl rfl rfl rfl rfl ?_
  intro w0 X
  unfold namedB
  (repeat' (first | ((with_reducible show AL _ _ _ _ _); first | (refine yf tabs rfl ?_; try dsimp only [len, List.nil_append, List.cons_append]) | refine AL.op rfl (ya7 rfl rfl rfl rfl (qf2 [n.sp, n.pf, n.lc] (by simp)) rfl rfl) ?_ | refine yn ?_ | (refine yq rfl rfl rfl (fun hc => ?_) (fun hc => ?_) <;> (fail_if_success (exact absurd hc (by decide))) <;> (try simp only [hsx] at hc) <;> (try first | omega | contradiction | (simp [qa] at hc; done)))) | refine ym ?_ | refine ya ?_ | refine yb ?_ | refine yg ?_ | refine yo ?_ | refine yc ?_))
  all_goals (first | exact RQ.fin rfl rfl rfl | exact RQ.fin' rfl rfl rfl | (refine RQ.fin rfl rfl (congrArg bav ?_); simp_all [es, qcz, qde]; done))
def cntB (l : List Int) (h : Int) : Nat := l.countP fun x => x == h
theorem qnx (l : List Int) (h : Int) (hl : l.length ≤ 1000000000) : PureC Tryz.prog 146 [.imm (.sl (l.map i64)), iav h] (bav (dec ((cntB l h : Int) = 1))) := by
  refine yp tabs Tryz.func146 22 [.tmp 4] rfl rfl rfl rfl rfl ?_; intro w0 X
  (repeat' (first | ((with_reducible show AL _ _ _ _ _); first | (refine yf tabs rfl ?_; try dsimp only [len, List.nil_append, List.cons_append]) | refine yn ?_ | (refine AL.op rfl (yj rfl rfl rfl rfl rfl (by omega) (by omega)) ?_) | (refine AL.op rfl (ye tabs rfl rfl rfl rfl rfl rfl rfl (fun _ => rfl) (by decide) (by omega) (by omega)) ?_)) | fail | refine ym ?_ | refine ya ?_ | refine yb ?_ | refine yg ?_ | refine AW.block ?_ | refine yy ?_ | refine yi rfl ?_ | refine yh rfl ?_ | (refine yk rfl (fun hc => ?_) (fun hc => ?_) <;> (try simp only [hsx] at hc) <;> (try first | omega | contradiction | (simp [qa] at hc; done))) | refine yo ?_ | refine yaa ?_ | refine yc ?_ | refine yt ?_ | refine yab ?_ | refine yx ?_ | refine InB.off rfl ?_ | refine yaf ?_ | refine yac ?_))
  refine yao (α := Int) (fun i => ⟨[(1, iav h), (5, iav (cntB (l.take i.toNat) h)), (8, .imm (.sl (l.map i64))), (9, iav (l.map i64).length), (10, iav i)], []⟩) (fun i => 0 ≤ i ∧ i ≤ l.length) (fun i => (l.length - i).toNat) 0 (yag 0 rfl ⟨rfl, rfl, rfl, rfl, rfl, trivial⟩ rfl rfl (Nat.zero_le _)) ⟨by omega, by omega⟩ ?_
  intro i ⟨h0, h1⟩
  have hb : cntB (l.take i.toNat) h ≤ l.length := Nat.le_trans List.countP_le_length (by simp; omega)
  (repeat' (first | ((with_reducible show AL _ _ _ _ _); first | (refine yf tabs rfl ?_; try dsimp only [len, List.nil_append, List.cons_append]) | refine yn ?_ | (refine AL.op rfl (yj rfl rfl rfl rfl rfl (by omega) (by omega)) ?_) | (refine AL.op rfl (ye tabs rfl rfl rfl rfl rfl rfl rfl (fun _ => rfl) (by decide) (by omega) (by omega)) ?_)) | refine ym ?_ | refine ya ?_ | refine yb ?_ | refine yg ?_ | refine AW.block ?_ | refine yy ?_ | refine yi rfl ?_ | refine yh rfl ?_ | (refine yk rfl (fun hc => ?_) (fun hc => ?_) <;> (try simp only [hsx] at hc) <;> (try first | omega | contradiction | (simp [qa] at hc; done))) | refine yo ?_ | refine yaa ?_ | refine yc ?_ | refine yt ?_ | refine yab ?_ | refine yx ?_ | refine InB.off rfl ?_ | refine yaf ?_ | refine yac ?_))
  · have e : cntB (l.take (i + 1).toNat) h = cntB (l.take i.toNat) h + 1 := by
      rw [qg h0 (by assumption)]
      unfold cntB
      rw [List.countP_append]
      simp [hc]
    refine yak (i + 1) (yag 0 rfl ⟨rfl, by simp only [e]; rfl, rfl, rfl, rfl, trivial⟩ rfl rfl (Nat.zero_le _)) ⟨by omega, by omega⟩ (by omega)
  · have e : cntB (l.take (i + 1).toNat) h = cntB (l.take i.toNat) h := by
      rw [qg h0 (by assumption)]
      unfold cntB
      rw [List.countP_append]
      simp [hc]
    refine yak (i + 1) (yag 0 rfl ⟨rfl, by simp only [e]; rfl, rfl, rfl, rfl, trivial⟩ rfl rfl (Nat.zero_le _)) ⟨by omega, by omega⟩ (by omega)
  · rw [qo hc]; exact RQ.fin rfl rfl rfl
set_option maxHeartbeats 4000000
theorem qe {α : Type} [Inhabited α] {l : List α} {i : Int} (h0 : 0 ≤ i) (h1 : i < l.length) : l.drop i.toNat = atI l i :: l.drop (i + 1).toNat := by
  rw [show (i + 1).toNat = i.toNat + 1 by omega]
  unfold atI
  rw [List.getD_eq_getElem?_getD, List.getElem?_eq_getElem (by omega)]
  exact List.drop_eq_getElem_cons (by omega)
theorem qac {α : Type} {l : List α} {i : Int} (h : l.length ≤ i) : l.drop i.toNat = [] := List.drop_eq_nil_of_le (by omega)
def key (n : Name) : ByteArray × ByteArray := (n.sp, n.lc)
theorem qmt (n : Name) : PureC Tryz.prog 176 [n.av] (.agg [sav (key n).1, sav (key n).2]) := by
  refine yp tabs Tryz.func176 8 [.cell 2 177] rfl rfl rfl rfl rfl ?_; intro w0 X
  (repeat' (first | ((with_reducible show AL _ _ _ _ _); first | (refine yf tabs rfl ?_; try dsimp only [len, List.nil_append, List.cons_append]) | refine yn ?_) | refine ym ?_ | refine ya ?_ | refine yb ?_ | refine yg ?_ | refine yo ?_ | refine yc ?_))
  exact RQ.fin' rfl rfl rfl
structure Trait where
  known : Bool
  data : Bool
  kids : Bool
  hung : Bool
  full : Bool
  locl : Bool
def Trait.av (t : Trait) : AV := .agg [bav t.known, bav t.data, bav t.kids, bav t.hung, bav t.full, bav t.locl]
def traitsOf (k : Int) : Trait :=
  if k = 1 then ⟨true, false, true, true, true, false⟩ else
  if k = 3 ∨ k = 4 ∨ k = 8 then ⟨true, true, false, true, false, false⟩ else
  if k = 7 then ⟨true, true, false, true, false, true⟩ else
  if k = 10 then ⟨true, false, false, true, false, true⟩ else
  if k = 9 ∨ k = 11 ∨ k = 12 then ⟨true, false, true, false, false, false⟩ else ⟨false, false, false, false, false, false⟩
theorem qc6 (k : Int) : PureC Tryz.prog 141 [kav k] (traitsOf k).av := by
  have e : ∀ t, traitsOf k = t → (PureC Tryz.prog 141 [kav k] t.av → PureC Tryz.prog 141 [kav k] (traitsOf k).av) := fun t h h1 => by rw [h]; exact h1
  refine yp tabs Tryz.func141 24 [.cell 2 146] rfl rfl rfl rfl rfl ?_; intro w0 X
  (repeat' (first | ((with_reducible show AL _ _ _ _ _); first | (refine yf tabs rfl ?_; try dsimp only [len, List.nil_append, List.cons_append]) | refine yn ?_) | refine ym ?_ | refine ya ?_ | refine yb ?_ | refine yg ?_ | refine AW.block ?_ | refine yy ?_ | refine yi rfl ?_ | refine yh rfl ?_ | (refine yk rfl (fun hc => ?_) (fun hc => ?_) <;> (try simp only [hsx] at hc) <;> (try first | omega | contradiction | (simp [qa] at hc; done))) | refine yo ?_ | refine yaa ?_ | refine yc ?_ | refine yt ?_ | refine yab ?_ | refine yx ?_ | refine InB.off rfl ?_))
  all_goals (rw [show traitsOf k = _ by unfold traitsOf; simp [*]; rfl]; first | exact RQ.fin rfl rfl rfl | exact RQ.fin' rfl rfl rfl)
noncomputable def namingB (n : Node) (t : Trait) : Bool :=
  if t.full = true then namedB n.name else
  if t.locl = true then dec (n.name.lc ≠ es) && shortB [n.name.lc] && dec (n.name.sp = es ∧ n.name.pf = es) else dec (n.name.sp = es ∧ n.name.pf = es ∧ n.name.lc = es)
theorem qkn (n : Node) (t : Trait) : PureC Tryz.prog 142 [n.av, t.av] (bav (namingB n t)) := by
  refine yp tabs Tryz.func142 38 [.tmp 4] rfl rfl rfl rfl rfl ?_; intro w0 X
  (repeat' (first | ((with_reducible show AL _ _ _ _ _); first | (refine yf tabs rfl ?_; try dsimp only [len, List.nil_append, List.cons_append]) | refine AL.op rfl (yd rfl rfl rfl rfl (qii n.name) rfl) ?_ | refine AL.op rfl (ya7 rfl rfl rfl rfl (qf2 [n.name.lc] (by simp)) rfl rfl) ?_ | refine yn ?_ | (refine yq rfl rfl rfl (fun hc => ?_) (fun hc => ?_) <;> (fail_if_success (exact absurd hc (by decide))) <;> (try simp only [hsx] at hc) <;> (try first | omega | contradiction | (simp [qa] at hc; done))) | (refine AL.op rfl (ya6 rfl rfl rfl rfl eqt39 rfl rfl) ?_)) | refine ym ?_ | refine ya ?_ | refine yb ?_ | refine yg ?_ | refine AW.block ?_ | refine yy ?_ | refine yi rfl ?_ | refine yh rfl ?_ | (refine yk rfl (fun hc => ?_) (fun hc => ?_) <;> (try simp only [hsx] at hc) <;> (try first | omega | contradiction | (simp [qa] at hc; done))) | refine yo ?_ | refine yaa ?_ | refine yc ?_ | refine yt ?_ | refine yab ?_ | refine yx ?_ | refine InB.off rfl ?_))
  all_goals (refine RQ.fin rfl rfl (congrArg bav ?_); simp_all [namingB, es, qcz, qde, qig])
def famGo (K : Int → Int) (doc : Bool) : List Int → Int → Int → Bool
  | [], e, d => !doc || (decide (e < 2) && decide (d < 2))
  | k :: r, e, d =>
    if K k = 1 then famGo K doc r (e + 1) d else
    if K k = 10 then (if doc = false ∨ 0 < e then false else famGo K doc r e (d + 1)) else
    if K k = 3 ∨ K k = 4 then (if doc = true then false else famGo K doc r e d) else
    if K k = 8 ∨ K k = 7 then famGo K doc r e d else false
noncomputable def famB (f : List Node) (n : Node) : Bool := famGo (fun k => (nodeAt f k).kind) (dec (n.kind = 9)) n.kids 0 0
theorem qko (f : List Node) (n : Node) (hl : f.length ≤ 1000000000) (hk : n.kids.length ≤ 1000000000) : PureC Tryz.prog 177 [fav f, n.av] (bav (famB f n)) := by
  refine yp tabs Tryz.func177 55 [.tmp 4] rfl rfl rfl rfl rfl ?_; intro w0 X
  (repeat' (first | ((with_reducible show AL _ _ _ _ _); first | (refine yf tabs rfl ?_; try dsimp only [len, List.nil_append, List.cons_append]) | refine yn ?_ | (refine yq rfl rfl rfl (fun hc => ?_) (fun hc => ?_) <;> (fail_if_success (exact absurd hc (by decide))) <;> (try simp only [hsx] at hc) <;> (try first | omega | contradiction | (simp [qa] at hc; done))) | (refine AL.op rfl (yj rfl rfl rfl rfl rfl (by omega) (by omega)) ?_) | (refine AL.op rfl (ye tabs rfl rfl rfl rfl rfl rfl rfl (fun _ => rfl) (by decide) (by omega) (by omega)) ?_)) | fail | refine ym ?_ | refine ya ?_ | refine yb ?_ | refine yg ?_ | refine AW.block ?_ | refine yy ?_ | refine yi rfl ?_ | refine yh rfl ?_ | (refine yk rfl (fun hc => ?_) (fun hc => ?_) <;> (try simp only [hsx] at hc) <;> (try first | omega | contradiction | (simp [qa] at hc; done))) | refine yo ?_ | refine yaa ?_ | refine yc ?_ | refine yt ?_ | refine yab ?_ | refine yx ?_ | refine InB.off rfl ?_ | refine yaf ?_ | refine yac ?_))
  refine yao (α := Int × Int × Int) (fun x => ⟨[(2, .ptr 0 1 0 0), (5, bav (dec (n.kind = 9))), (6, iav x.2.1), (7, iav x.2.2), (14, .imm (.sl (n.kids.map i64))), (15, iav (n.kids.map i64).length), (16, iav x.1)], [⟨24, 1, [[.imm (.sl (f.map Node.iv))]]⟩]⟩) (fun x => 0 ≤ x.1 ∧ x.1 ≤ n.kids.length ∧ 0 ≤ x.2.1 ∧ x.2.1 ≤ x.1 ∧ 0 ≤ x.2.2 ∧ x.2.2 ≤ x.1 ∧ famGo (fun k => (nodeAt f k).kind) (dec (n.kind = 9)) (n.kids.drop x.1.toNat) x.2.1 x.2.2 = famB f n) (fun x => (n.kids.length - x.1).toNat) (0, 0, 0) (yag 1 rfl (by repeat' (first | exact trivial | refine ⟨rfl, ?_⟩)) rfl rfl (Nat.zero_le _)) ⟨by simp, by simp, by simp, by simp, by simp, by simp, rfl⟩ ?_
  rintro ⟨i, e, d⟩ ⟨h0, h1, h3, h4, h5, h6, h2⟩
  simp only at h0 h1 h2 h3 h4 h5 h6
  (repeat' (first | ((with_reducible show AL _ _ _ _ _); first | (refine yf tabs rfl ?_; try dsimp only [len, List.nil_append, List.cons_append]) | refine AL.op rfl (yd rfl rfl rfl rfl (ql8 f _ hl) rfl) ?_ | refine yn ?_ | (refine yq rfl rfl rfl (fun hc => ?_) (fun hc => ?_) <;> (fail_if_success (exact absurd hc (by decide))) <;> (try simp only [hsx] at hc) <;> (try first | omega | contradiction | (simp [qa] at hc; done))) | (refine AL.op rfl (yj rfl rfl rfl rfl rfl (by omega) (by omega)) ?_) | (refine AL.op rfl (ye tabs rfl rfl rfl rfl rfl rfl rfl (fun _ => rfl) (by decide) (by omega) (by omega)) ?_)) | refine ym ?_ | refine ya ?_ | refine yb ?_ | refine yg ?_ | refine AW.block ?_ | refine yy ?_ | refine yi rfl ?_ | refine yh rfl ?_ | (refine yk rfl (fun hc => ?_) (fun hc => ?_) <;> (try simp only [hsx] at hc) <;> (try first | omega | contradiction | (simp [qa] at hc; done))) | refine yo ?_ | refine yaa ?_ | refine yc ?_ | refine yt ?_ | refine yab ?_ | refine yx ?_ | refine InB.off rfl ?_ | refine yaf ?_ | refine yac ?_))
  all_goals first
    | (refine RQ.fin rfl rfl (congrArg bav ?_); rw [← h2]; clear h2; (first | rw [qe h0 (by assumption)] | rw [qac (by assumption)]); simp [famGo, qcz, qde, qa, *] <;> omega)
    | (refine yak (i + 1, e + 1, d) (yag 1 rfl ⟨rfl, rfl, rfl, rfl, rfl, rfl, rfl, trivial⟩ rfl rfl (Nat.zero_le _)) ⟨?_, ?_, ?_, ?_, ?_, ?_, ?_⟩ ?_ <;> simp only <;> first | omega | (rw [← h2]; clear h2; rw [qe h0 (by assumption)]; simp [famGo, qcz, qde, qa, *]; done))
    | (refine yak (i + 1, e, d + 1) (yag 1 rfl ⟨rfl, rfl, rfl, rfl, rfl, rfl, rfl, trivial⟩ rfl rfl (Nat.zero_le _)) ⟨?_, ?_, ?_, ?_, ?_, ?_, ?_⟩ ?_ <;> simp only <;> first | omega | (rw [← h2]; clear h2; rw [qe h0 (by assumption)]; simp [famGo, qcz, qde, qa, *]; done))
    | (refine yak (i + 1, e, d) (yag 1 rfl ⟨rfl, rfl, rfl, rfl, rfl, rfl, rfl, trivial⟩ rfl rfl (Nat.zero_le _)) ⟨?_, ?_, ?_, ?_, ?_, ?_, ?_⟩ ?_ <;> simp only <;> first | omega | (rw [← h2]; clear h2; rw [qe h0 (by assumption)]; simp [famGo, qcz, qde, qa, *]; done))
noncomputable def kidsGo (f : List Node) (h doc : Int) (seen : List Int) : List Int → Bool
  | [] => true
  | k :: r => if inB f k = false then false else if dec (k ∈ seen) = true then false else if dec ((nodeAt f k).parent = h) = false then false else if dec ((nodeAt f k).doc = doc) = false then false else kidsGo f h doc (seen ++ [k]) r
noncomputable def kidsB (f : List Node) (h : Int) (n : Node) : Bool := kidsGo f h n.doc [] n.kids && famB f n
theorem qkp (f : List Node) (h : Int) (n : Node) (hl : f.length ≤ 1000000000) (hk : n.kids.length ≤ 1000000000) : PureC Tryz.prog 148 [fav f, iav h, n.av] (bav (kidsB f h n)) := by
  refine yp tabs Tryz.func148 55 [.tmp 6] rfl rfl rfl rfl rfl ?_; intro w0 X
  (repeat' (first | ((with_reducible show AL _ _ _ _ _); first | (refine yf tabs rfl ?_; try dsimp only [len, List.nil_append, List.cons_append]) | refine yb2 rfl rfl rfl (fun g hg => ?_) | refine yn ?_ | (refine yq rfl rfl rfl (fun hc => ?_) (fun hc => ?_) <;> (fail_if_success (exact absurd hc (by decide))) <;> (try simp only [hsx] at hc) <;> (try first | omega | contradiction | (simp [qa] at hc; done))) | (refine AL.op rfl (yj rfl rfl rfl rfl rfl (by omega) (by omega)) ?_) | (refine AL.op rfl (ye tabs rfl rfl rfl rfl rfl rfl rfl (fun _ => rfl) (by decide) (by omega) (by omega)) ?_)) | refine ym ?_ | refine ya ?_ | refine yb ?_ | refine yg ?_ | refine AW.block ?_ | refine yy ?_ | refine yi rfl ?_ | refine yh rfl ?_ | (refine yk rfl (fun hc => ?_) (fun hc => ?_) <;> (try simp only [hsx] at hc) <;> (try first | omega | contradiction | (simp [qa] at hc; done))) | refine yo ?_ | refine yaa ?_ | refine yc ?_ | refine yt ?_ | refine yab ?_ | refine yx ?_ | refine InB.off rfl ?_ | refine yaf ?_ | refine yac ?_))
  refine yao (α := Int) (fun i => ⟨[(1, iav h), (3, .ptr 0 1 0 0), (5, .ptr 1 1 0 0), (7, .mp g ((n.kids.take i.toNat).map i64) ((n.kids.take i.toNat).map fun _ => [.int .i64 1])), (14, .imm (.sl (n.kids.map i64))), (15, iav (n.kids.map i64).length), (16, iav i)], [⟨24, 1, [[.imm (.sl (f.map Node.iv))]]⟩, ⟨44, 16, [n.iv.map .imm]⟩]⟩) (fun i => 0 ≤ i ∧ i ≤ n.kids.length ∧ kidsGo f h n.doc (n.kids.take i.toNat) (n.kids.drop i.toNat) = kidsGo f h n.doc [] n.kids) (fun i => (n.kids.length - i).toNat) 0 (yag 2 rfl ⟨rfl, rfl, rfl, rfl, rfl, rfl, rfl, trivial⟩ rfl rfl (Nat.zero_le _)) ⟨by omega, by omega, rfl⟩ ?_
  intro i ⟨h0, h1, h2⟩
  (repeat' (first | ((with_reducible show AL _ _ _ _ _); first | (refine yf tabs rfl ?_; try dsimp only [len, List.nil_append, List.cons_append]) | refine AL.op rfl (yd rfl rfl rfl rfl (at_c f (atI n.kids i) hl) rfl) ?_ | refine AL.op rfl (yd rfl rfl rfl rfl (qko f n hl hk) rfl) ?_ | refine AL.op rfl (yci (kf := i64) key3 Tryz.underlying180 zero3 rfl rfl rfl rfl (q := atI n.kids i) rfl (by assumption)) ?_ | refine AL.op rfl (ycj (kf := i64) key3 Tryz.underlying180 zero3 rfl rfl rfl rfl rfl (q := atI n.kids i) rfl) ?_ | refine AL.op rfl (ya3 (kf := i64) key3 Tryz.underlying180 rfl (.inl rfl) hg rfl rfl (q := atI n.kids i) rfl (v := [.int .i64 (0 + 1)]) rfl (fun M z hz => q9 hz) (by assumption) (by repeat' (first | exact trivial | refine ⟨rfl, ?_⟩)) rfl) ?_ | refine yn ?_ | (refine yq rfl rfl rfl (fun hc => ?_) (fun hc => ?_) <;> (fail_if_success (exact absurd hc (by decide))) <;> (try simp only [hsx] at hc) <;> (try first | omega | contradiction | (simp [qa] at hc; done))) | (refine AL.op rfl (yj rfl rfl rfl rfl rfl (by omega) (by omega)) ?_) | (refine AL.op rfl (ye tabs rfl rfl rfl rfl rfl rfl rfl (fun _ => rfl) (by decide) (by omega) (by omega)) ?_)) | refine ym ?_ | refine ya ?_ | refine yb ?_ | refine yg ?_ | refine AW.block ?_ | refine yy ?_ | refine yi rfl ?_ | refine yh rfl ?_ | (refine yk rfl (fun hc => ?_) (fun hc => ?_) <;> (try simp only [hsx] at hc) <;> (try first | omega | contradiction | (simp [qa] at hc; done))) | refine yo ?_ | refine yaa ?_ | refine yc ?_ | refine yt ?_ | refine yab ?_ | refine yx ?_ | refine InB.off rfl ?_ | refine yaf ?_ | refine yac ?_))
  · refine RQ.fin rfl rfl (congrArg bav ?_)
    unfold kidsB
    rw [← h2, qe h0 (by assumption)]; simp [kidsGo, hc]
  · refine RQ.fin rfl rfl (congrArg bav ?_)
    unfold kidsB
    rw [← h2, qe h0 (by assumption), kidsGo, qai hc]; simp
  · refine RQ.fin rfl rfl (congrArg bav ?_)
    unfold kidsB
    rw [← h2, qe h0 (by assumption), kidsGo, qu hc]; simp
  · refine RQ.fin rfl rfl (congrArg bav ?_)
    unfold kidsB
    rw [← h2, qe h0 (by assumption), kidsGo, qu hc]; simp
  · have hi : i < n.kids.length := by assumption
    have hn : atI n.kids i ∉ n.kids.take i.toNat := by assumption
    have ek : n.kids.take (i + 1).toNat = n.kids.take i.toNat ++ [atI n.kids i] := qg h0 hi
    refine yak (i + 1) (yag 2 rfl ⟨rfl, rfl, rfl, (by rw [ek, List.map_append, List.map_append]; rfl), rfl, rfl, rfl, trivial⟩ rfl rfl (Nat.zero_le _)) ⟨by omega, by omega, ?_⟩ (by omega)
    rw [ek, ← h2, qe h0 hi]
    simp only [kidsGo]
    rw [qu hn]
    simp [*, qcz]
  · refine RQ.fin rfl rfl (congrArg bav ?_)
    unfold kidsB
    rw [← h2, qac (by assumption)]; simp [kidsGo]
noncomputable def attrsGo (seen : List (ByteArray × ByteArray)) : List Attr → Bool
  | [] => true
  | a :: r => if namedB a.name = false then false else if 4096 < a.value.size then false else if dec (key a.name ∈ seen) = true then false else attrsGo (seen ++ [key a.name]) r
noncomputable def attrsB (l : List Attr) : Bool := decide (l.length ≤ 64) && attrsGo [] l
def akf (p : ByteArray × ByteArray) : List IV := [.str p.1, .str p.2]
theorem qfe (l : List Attr) (hl : l.length ≤ 1000000000) : PureC Tryz.prog 143 [.imm (.sl (l.map Attr.iv))] (bav (attrsB l)) := by
  refine yp tabs Tryz.func143 43 [.tmp 2] rfl rfl rfl rfl rfl ?_; intro w0 X
  (repeat' (first | ((with_reducible show AL _ _ _ _ _); first | (refine yf tabs rfl ?_; try dsimp only [len, List.nil_append, List.cons_append]) | refine yb2 rfl rfl rfl (fun g hg => ?_) | refine yn ?_ | (refine yq rfl rfl rfl (fun hc => ?_) (fun hc => ?_) <;> (fail_if_success (exact absurd hc (by decide))) <;> (try simp only [hsx] at hc) <;> (try first | omega | contradiction | (simp [qa] at hc; done))) | (refine AL.op rfl (yj rfl rfl rfl rfl rfl (by omega) (by omega)) ?_) | (refine AL.op rfl (ye tabs rfl rfl rfl rfl rfl rfl rfl (fun _ => rfl) (by decide) (by omega) (by omega)) ?_)) | ((with_reducible show DQ _ _ _ _ _ _); first | refine DQ.stepc (LS.val tabs rfl rfl rfl) rfl rfl rfl rfl rfl ?_ | refine DQ.stepc (yu rfl rfl) rfl rfl rfl rfl rfl ?_ | refine DQ.nilM (by kernel_rfl) ?_ | refine DQ.stepc (yad rfl rfl rfl rfl rfl rfl (by omega) (by omega)) rfl rfl rfl rfl rfl ?_ | refine DQ.stepc (yw tabs rfl rfl rfl rfl rfl rfl rfl rfl (fun _ => rfl) (by decide) (by omega) (by omega)) rfl rfl rfl rfl rfl ?_ | (refine DQ.gsplitE rfl rfl rfl (fun hc => ?_) (fun hc => ?_) <;> (fail_if_success (exact absurd hc (by decide))) <;> (try simp only [hsx] at hc) <;> (try first | omega | contradiction | (simp [qa] at hc; done)))) | refine ym ?_ | refine ya ?_ | refine yb ?_ | refine yg ?_ | refine AW.block ?_ | refine yy ?_ | refine yi rfl ?_ | refine yh rfl ?_ | (refine yk rfl (fun hc => ?_) (fun hc => ?_) <;> (try simp only [hsx] at hc) <;> (try first | omega | contradiction | (simp [qa] at hc; done))) | refine yo ?_ | refine yaa ?_ | refine yc ?_ | refine yt ?_ | refine yab ?_ | refine yx ?_ | refine InB.off rfl ?_ | refine yaf ?_ | refine yac ?_ | refine yr mixed (by kernel_rfl) ?_))
  · refine RQ.fin rfl rfl (congrArg bav ?_)
    unfold attrsB
    rw [show decide (l.length ≤ 64) = false by simp; omega]; rfl
  refine yao (α := Int) (fun i => ⟨[(3, .mp g (((l.take i.toNat).map fun a => key a.name).map akf) (((l.take i.toNat).map fun a => key a.name).map fun _ => [.int .i64 1])), (11, .imm (.sl (l.map Attr.iv))), (12, iav (l.map Attr.iv).length), (13, iav i)], []⟩) (fun i => 0 ≤ i ∧ i ≤ l.length ∧ attrsGo ((l.take i.toNat).map fun a => key a.name) (l.drop i.toNat) = attrsGo [] l) (fun i => (l.length - i).toNat) 0 (yag 0 rfl ⟨rfl, rfl, rfl, rfl, trivial⟩ rfl rfl (Nat.zero_le _)) ⟨by omega, by omega, rfl⟩ ?_
  intro i ⟨h0, h1, h2⟩
  (repeat' (first | ((with_reducible show AL _ _ _ _ _); first | (refine yf tabs rfl ?_; try dsimp only [len, List.nil_append, List.cons_append]) | refine AL.op rfl (yd rfl rfl rfl rfl (qmt (atI l i).name) rfl) ?_ | refine AL.op rfl (yd rfl rfl rfl rfl (qii (atI l i).name) rfl) ?_ | refine AL.op rfl (ycj (kf := akf) key177 Tryz.underlying175 zero3 rfl rfl rfl rfl rfl (q := key (atI l i).name) rfl) ?_ | refine yn ?_ | (refine yq rfl rfl rfl (fun hc => ?_) (fun hc => ?_) <;> (fail_if_success (exact absurd hc (by decide))) <;> (try simp only [hsx] at hc) <;> (try first | omega | contradiction | (simp [qa] at hc; done))) | (refine AL.op rfl (yj rfl rfl rfl rfl rfl (by omega) (by omega)) ?_) | (refine AL.op rfl (ye tabs rfl rfl rfl rfl rfl rfl rfl (fun _ => rfl) (by decide) (by omega) (by omega)) ?_)) | ((with_reducible show DQ _ _ _ _ _ _); first | refine DQ.stepc (LS.val tabs rfl rfl rfl) rfl rfl rfl rfl rfl ?_ | refine DQ.stepc (yu rfl rfl) rfl rfl rfl rfl rfl ?_ | refine DQ.nilM (by kernel_rfl) ?_ | refine DQ.stepc (yad rfl rfl rfl rfl rfl rfl (by omega) (by omega)) rfl rfl rfl rfl rfl ?_ | refine DQ.stepc (yw tabs rfl rfl rfl rfl rfl rfl rfl rfl (fun _ => rfl) (by decide) (by omega) (by omega)) rfl rfl rfl rfl rfl ?_ | (refine DQ.gsplitE rfl rfl rfl (fun hc => ?_) (fun hc => ?_) <;> (fail_if_success (exact absurd hc (by decide))) <;> (try simp only [hsx] at hc) <;> (try first | omega | contradiction | (simp [qa] at hc; done)))) | refine ym ?_ | refine ya ?_ | refine yb ?_ | refine yg ?_ | refine AW.block ?_ | refine yy ?_ | refine yi rfl ?_ | refine yh rfl ?_ | (refine yk rfl (fun hc => ?_) (fun hc => ?_) <;> (try simp only [hsx] at hc) <;> (try first | omega | contradiction | (simp [qa] at hc; done))) | refine yo ?_ | refine yaa ?_ | refine yc ?_ | refine yt ?_ | refine yab ?_ | refine yx ?_ | refine InB.off rfl ?_ | refine yaf ?_ | refine yac ?_ ))
  · refine RQ.fin rfl rfl (congrArg bav ?_)
    unfold attrsB
    rw [← h2, qe h0 (by assumption)]; simp [attrsGo, hc]
  · have e : 4096 < (atI l i).value.size := by omega
    refine RQ.fin rfl rfl (congrArg bav ?_)
    unfold attrsB
    rw [← h2, qe h0 (by assumption)]; simp [attrsGo, e]
  · refine RQ.fin rfl rfl (congrArg bav ?_)
    unfold attrsB
    rw [← h2, qe h0 (by assumption), attrsGo, qai hc]; simp
  · refine AW.orders mixed ?_
    have e : ¬ 4096 < (atI l i).value.size := by omega
    have hi : i < l.length := by assumption
    have ek : ((l.take (i + 1).toNat).map fun a => key a.name) = ((l.take i.toNat).map fun a => key a.name) ++ [key (atI l i).name] := by rw [qg h0 hi, List.map_append]; rfl
    repeat' (first
      | refine AS.step tabs rfl rfl ?_
      | refine AS.op rfl rfl (yci (kf := akf) key177 Tryz.underlying175 zero3 rfl rfl rfl rfl (q := key (atI l i).name) rfl hc) ?_
      | refine AS.op rfl rfl (OpOK.look2 (kf := akf) (xs := (l.take i.toNat).map fun a => key a.name) (q := key (atI l i).name) key177 Tryz.underlying175 zero3 rfl rfl rfl rfl rfl (by simp) hc) ?_
      | refine AS.op rfl rfl (yj rfl rfl rfl rfl rfl (by omega) (by omega)) ?_
      | refine AS.op rfl rfl (OpOK.ent0 (kf := akf) key177 Tryz.underlying175 zero3 rfl rfl rfl hg rfl rfl (q := key (atI l i).name) rfl hc (by repeat' (first | exact trivial | refine ⟨rfl, ?_⟩)) rfl) ?_
      | refine AS.op rfl rfl (OpOK.ent1 rfl rfl hg rfl (by simp) rfl (v := [.int .i64 (0 + 1)]) rfl (by repeat' (first | exact trivial | refine ⟨rfl, ?_⟩)) rfl) ?_
      | refine AD.nil (by decide +kernel) ?_
      | refine AD.two (i := 0) (j := 1) (by decide +kernel) ?_ ?_
      | refine AD.one (i := 0) (by decide +kernel) ?_
      | refine AD.one (i := 1) (by decide +kernel) ?_
      | refine AD.two (i := 2) (j := 4) (by decide +kernel) ?_ ?_
      | refine AD.two (i := 2) (j := 5) (by decide +kernel) ?_ ?_
      | refine AD.two (i := 3) (j := 4) (by decide +kernel) ?_ ?_
      | refine AD.two (i := 3) (j := 5) (by decide +kernel) ?_ ?_
      | refine AD.one (i := 2) (by decide +kernel) ?_
      | refine AD.one (i := 3) (by decide +kernel) ?_
      | refine AD.one (i := 4) (by decide +kernel) ?_
      | refine AD.one (i := 5) (by decide +kernel) ?_
      | refine AD.one (i := 6) (by decide +kernel) ?_)
    all_goals
      (repeat' (first | ((with_reducible show AL _ _ _ _ _); first | (refine yf tabs rfl ?_; try dsimp only [len, List.nil_append, List.cons_append]) | refine yn ?_ | (refine yq rfl rfl rfl (fun hc => ?_) (fun hc => ?_) <;> (fail_if_success (exact absurd hc (by decide))) <;> (try simp only [hsx] at hc) <;> (try first | omega | contradiction | (simp [qa] at hc; done))) | (refine AL.op rfl (yj rfl rfl rfl rfl rfl (by omega) (by omega)) ?_) | (refine AL.op rfl (ye tabs rfl rfl rfl rfl rfl rfl rfl (fun _ => rfl) (by decide) (by omega) (by omega)) ?_)) | ((with_reducible show DQ _ _ _ _ _ _); first | refine DQ.stepc (LS.val tabs rfl rfl rfl) rfl rfl rfl rfl rfl ?_ | refine DQ.stepc (yu rfl rfl) rfl rfl rfl rfl rfl ?_ | refine DQ.nilM (by kernel_rfl) ?_ | refine DQ.stepc (yad rfl rfl rfl rfl rfl rfl (by omega) (by omega)) rfl rfl rfl rfl rfl ?_ | refine DQ.stepc (yw tabs rfl rfl rfl rfl rfl rfl rfl rfl (fun _ => rfl) (by decide) (by omega) (by omega)) rfl rfl rfl rfl rfl ?_ | (refine DQ.gsplitE rfl rfl rfl (fun hc => ?_) (fun hc => ?_) <;> (fail_if_success (exact absurd hc (by decide))) <;> (try simp only [hsx] at hc) <;> (try first | omega | contradiction | (simp [qa] at hc; done)))) | refine ym ?_ | refine ya ?_ | refine yb ?_ | refine yg ?_ | refine AW.block ?_ | refine yy ?_ | refine yi rfl ?_ | refine yh rfl ?_ | (refine yk rfl (fun hc => ?_) (fun hc => ?_) <;> (try simp only [hsx] at hc) <;> (try first | omega | contradiction | (simp [qa] at hc; done))) | refine yo ?_ | refine yaa ?_ | refine yc ?_ | refine yt ?_ | refine yab ?_ | refine yx ?_ | refine InB.off rfl ?_ | refine yaf ?_ | refine yac ?_ | refine yr mixed (by kernel_rfl) ?_))
      refine yak (i + 1) (yag 0 rfl ⟨(by rw [ek, List.map_append, List.map_append]; rfl), rfl, rfl, rfl, trivial⟩ rfl rfl (Nat.zero_le _)) ⟨by omega, by omega, ?_⟩ (by omega)
      rw [ek, ← h2, qe h0 hi]
      simp only [attrsGo]
      rw [qu hc]
      simp [*]
  · refine RQ.fin rfl rfl (congrArg bav ?_)
    unfold attrsB
    rw [← h2, qac (by assumption), show decide (l.length ≤ 64) = true by simp; omega]; simp [attrsGo]
def m11 (n : Node) : Prop := (traitsOf n.kind).known = true ∧ namingB n (traitsOf n.kind) = true ∧ attrsB n.attrs = true
def m27 (n : Node) : Prop := shortB [n.pub, n.sys] = true ∧ (n.kind = 10 ∨ n.pub = es ∧ n.sys = es)
def m50 (n : Node) : Prop := ¬ 16384 < (n.data.length : Int) ∧ ((traitsOf n.kind).data = true ∨ ¬ 0 < (n.data.length : Int)) ∧ ((traitsOf n.kind).kids = true ∨ ¬ 0 < (n.kids.length : Int))
def m77 (n : Node) : Prop := (n.kind = 1 ∨ ¬ 0 < (n.attrs.length : Int) ∧ n.shadow = 0) ∧ (n.kind = 9 ∨ n.html = false)
def m100 (n : Node) : Prop := (traitsOf n.kind).hung = true ∨ n.parent = 0
def m200 (n : Node) : Prop := (n.kind = 12 ∧ (n.mode = 1 ∨ n.mode = 2)) ∨ (n.kind ≠ 12 ∧ n.mode = 0 ∧ n.manual = false ∧ n.host = 0)
def madeP (n : Node) : Prop := m11 n ∧ m27 n ∧ m50 n ∧ m77 n ∧ m100 n ∧ m200 n
theorem qny (n : Node) (hd : n.data.length ≤ 1000000000) (ha : n.attrs.length ≤ 1000000000) (hk : n.kids.length ≤ 1000000000) : PureC Tryz.prog 104 [n.av] (bav (dec (madeP n))) := by
  refine yp tabs Tryz.func104 133 [.tmp 2] rfl rfl rfl rfl rfl ?_; intro w0 X
  (repeat' (first | ((with_reducible show AL _ _ _ _ _); first | (refine yf tabs rfl ?_; try dsimp only [len, List.nil_append, List.cons_append]) | refine AL.op rfl (yd rfl rfl rfl rfl (qc6 n.kind) rfl) ?_ | refine AL.op rfl (yd rfl rfl rfl rfl (qkn n (traitsOf n.kind)) rfl) ?_ | refine AL.op rfl (yd rfl rfl rfl rfl (qfe n.attrs ha) rfl) ?_ | refine AL.op rfl (ya7 rfl rfl rfl rfl (qf2 [n.pub, n.sys] (by simp)) rfl rfl) ?_ | refine yn ?_ | (refine yq rfl rfl rfl (fun hc => ?_) (fun hc => ?_) <;> (fail_if_success (exact absurd hc (by decide))) <;> (try simp only [hsx] at hc) <;> (try first | omega | contradiction | (simp [qa] at hc; done)))) | refine ybh (t := 11) ⟨[(1, .ptr 0 1 0 0), (3, .ptr 1 1 0 0), (4, bav (dec (n.kind = 1))), (11, bav (dec (¬ m11 n)))], [⟨44, 16, [n.iv.map .imm]⟩, ⟨146, 6, [[bav (traitsOf n.kind).known, bav (traitsOf n.kind).data, bav (traitsOf n.kind).kids, bav (traitsOf n.kind).hung, bav (traitsOf n.kind).full, bav (traitsOf n.kind).locl]]⟩]⟩ ?_ ?_ | refine ybh (t := 27) ⟨[(1, .ptr 0 1 0 0), (3, .ptr 1 1 0 0), (4, bav (dec (n.kind = 1))), (27, bav (dec (¬ m27 n)))], [⟨44, 16, [n.iv.map .imm]⟩, ⟨146, 6, [[bav (traitsOf n.kind).known, bav (traitsOf n.kind).data, bav (traitsOf n.kind).kids, bav (traitsOf n.kind).hung, bav (traitsOf n.kind).full, bav (traitsOf n.kind).locl]]⟩]⟩ ?_ ?_ | refine ybh (t := 50) ⟨[(1, .ptr 0 1 0 0), (3, .ptr 1 1 0 0), (4, bav (dec (n.kind = 1))), (50, bav (dec (¬ m50 n)))], [⟨44, 16, [n.iv.map .imm]⟩, ⟨146, 6, [[bav (traitsOf n.kind).known, bav (traitsOf n.kind).data, bav (traitsOf n.kind).kids, bav (traitsOf n.kind).hung, bav (traitsOf n.kind).full, bav (traitsOf n.kind).locl]]⟩]⟩ ?_ ?_ | refine ybh (t := 77) ⟨[(1, .ptr 0 1 0 0), (3, .ptr 1 1 0 0), (4, bav (dec (n.kind = 1))), (77, bav (dec (¬ m77 n)))], [⟨44, 16, [n.iv.map .imm]⟩, ⟨146, 6, [[bav (traitsOf n.kind).known, bav (traitsOf n.kind).data, bav (traitsOf n.kind).kids, bav (traitsOf n.kind).hung, bav (traitsOf n.kind).full, bav (traitsOf n.kind).locl]]⟩]⟩ ?_ ?_ | refine ybh (t := 100) ⟨[(1, .ptr 0 1 0 0), (3, .ptr 1 1 0 0), (4, bav (dec (n.kind = 1))), (100, bav (dec (¬ m100 n)))], [⟨44, 16, [n.iv.map .imm]⟩, ⟨146, 6, [[bav (traitsOf n.kind).known, bav (traitsOf n.kind).data, bav (traitsOf n.kind).kids, bav (traitsOf n.kind).hung, bav (traitsOf n.kind).full, bav (traitsOf n.kind).locl]]⟩]⟩ ?_ ?_ | refine ym ?_ | refine ya ?_ | refine yb ?_ | refine yg ?_ | refine AW.block ?_ | refine yy ?_ | refine yi rfl ?_ | refine yh rfl ?_ | (refine yk rfl (fun hc => ?_) (fun hc => ?_) <;> (try simp only [hsx] at hc) <;> (try first | omega | contradiction | (simp [qa] at hc; done))) | refine yo ?_ | refine yaa ?_ | refine yc ?_ | refine yt ?_ | refine yab ?_ | refine yx ?_ | refine InB.off rfl ?_))
  all_goals first
    | (refine RQ.fin rfl rfl (congrArg bav ?_); rw [Bool.eq_iff_iff]; simp only [madeP, m200, qc, Bool.not_eq_true', qi]; grind)
    | (refine Mid.of (yag 2 rfl ⟨rfl, rfl, rfl, qeq rfl ?_, trivial⟩ rfl rfl (Nat.zero_le _)); rw [Bool.eq_iff_iff]; simp only [m11, m27, m50, m77, m100, es, qc, Bool.not_eq_true', qi]; grind)
def l1 (f : List Node) (h : Int) (n : Node) : Prop := n.parent = 0 ∨ (inB f n.parent = true ∧ (cntB (nodeAt f n.parent).kids h : Int) = 1)
def l2 (f : List Node) (h : Int) (n : Node) : Prop := (nodeAt f n.doc).kind = 9 ∧ (n.kind = 9 → n.doc = h)
def l3 (f : List Node) (h : Int) (n : Node) : Prop := n.shadow = 0 ∨ (inB f n.shadow = true ∧ (nodeAt f n.shadow).kind = 12 ∧ (nodeAt f n.shadow).host = h)
def l4 (f : List Node) (h : Int) (n : Node) : Prop := n.kind = 12 → (inB f n.host = true ∧ (nodeAt f n.host).kind = 1 ∧ (nodeAt f n.host).shadow = h ∧ (nodeAt f n.host).doc = n.doc)
def linksP (f : List Node) (h : Int) (n : Node) : Prop := l1 f h n ∧ l2 f h n ∧ l3 f h n ∧ l4 f h n ∧ kidsB f h n = true
theorem qmu (f : List Node) (h : Int) (hl : f.length ≤ 1000000000) (hk : ∀ h, (nodeAt f h).kids.length ≤ 1000000000) (hk' : (atI f (h - 1)).kids.length ≤ 1000000000) (h1 : 1 ≤ h) (h2 : h ≤ f.length) : PureC Tryz.prog 105 [fav f, iav h] (bav (dec (linksP f h (atI f (h - 1))))) := by
  refine yp tabs Tryz.func105 110 [.tmp 4] rfl rfl rfl rfl rfl ?_; intro w0 X
  (repeat' (first | ((with_reducible show AL _ _ _ _ _); first | (refine yf tabs rfl ?_; try dsimp only [len, List.nil_append, List.cons_append]) | refine AL.op rfl (yd rfl rfl rfl rfl (at_c f (atI f (h - 1)).parent hl) rfl) ?_ | refine AL.op rfl (yd rfl rfl rfl rfl (at_c f (atI f (h - 1)).shadow hl) rfl) ?_ | refine AL.op rfl (yd rfl rfl rfl rfl (at_c f (atI f (h - 1)).host hl) rfl) ?_ | refine AL.op rfl (yd rfl rfl rfl rfl (ql8 f (atI f (h - 1)).doc hl) rfl) ?_ | refine AL.op rfl (yd rfl rfl rfl rfl (qnx (nodeAt f (atI f (h - 1)).parent).kids h (hk _)) rfl) ?_ | refine AL.op rfl (yd rfl rfl rfl rfl (qkp f h (atI f (h - 1)) hl hk') rfl) ?_ | refine yn ?_ | (refine yq rfl rfl rfl (fun hc => ?_) (fun hc => ?_) <;> (fail_if_success (exact absurd hc (by decide))) <;> (try simp only [hsx] at hc) <;> (try first | omega | contradiction | (simp [qa] at hc; done))) | (refine AL.op rfl (yj rfl rfl rfl rfl rfl (by omega) (by omega)) ?_) | (refine AL.op rfl (ye tabs rfl rfl rfl rfl rfl rfl rfl (fun _ => rfl) (by decide) (by omega) (by omega)) ?_)) | refine ybn (t := 20) (l1 f h (atI f (h - 1))) ⟨[(1, iav h), (2, .ptr 0 1 0 0), (5, .ptr 1 1 0 0)], [⟨24, 1, [[.imm (.sl (f.map Node.iv))]]⟩, ⟨44, 16, [(atI f (h - 1)).iv.map .imm]⟩]⟩ ?_ (fun ml1 => ?_) | refine ybn (t := 52) (l2 f h (atI f (h - 1))) ⟨[(1, iav h), (2, .ptr 0 1 0 0), (5, .ptr 1 1 0 0)], [⟨24, 1, [[.imm (.sl (f.map Node.iv))]]⟩, ⟨44, 16, [(atI f (h - 1)).iv.map .imm]⟩]⟩ ?_ (fun ml2 => ?_) | refine ybn (t := 55) (l3 f h (atI f (h - 1))) ⟨[(1, iav h), (2, .ptr 0 1 0 0), (5, .ptr 1 1 0 0)], [⟨24, 1, [[.imm (.sl (f.map Node.iv))]]⟩, ⟨44, 16, [(atI f (h - 1)).iv.map .imm]⟩]⟩ ?_ (fun ml3 => ?_) | refine ybn (t := 78) (l4 f h (atI f (h - 1))) ⟨[(1, iav h), (2, .ptr 0 1 0 0), (5, .ptr 1 1 0 0)], [⟨24, 1, [[.imm (.sl (f.map Node.iv))]]⟩, ⟨44, 16, [(atI f (h - 1)).iv.map .imm]⟩]⟩ ?_ (fun ml4 => ?_) | refine ym ?_ | refine ya ?_ | refine yb ?_ | refine yg ?_ | refine yi rfl ?_ | refine yh rfl ?_ | (refine yk rfl (fun hc => ?_) (fun hc => ?_) <;> (try simp only [hsx] at hc) <;> (try first | omega | contradiction | (simp [qa] at hc; done))) | refine yo ?_ | refine yc ?_))
  all_goals try (refine RQ.fin rfl rfl (congrArg bav ?_); rw [Bool.eq_iff_iff]; simp only [linksP, l1, l2, l3, l4, qc, Bool.not_eq_true', qi]; grind)
  all_goals try (refine ycc ?_ (yag 2 rfl ⟨rfl, rfl, rfl, trivial⟩ rfl rfl (Nat.zero_le _)); simp only [l1, l2, l3, l4]; grind)
  refine RQ.fin rfl rfl (congrArg bav ?_)
  simp only [linksP, ml1, ml2, ml3, ml4, true_and, ql7]
end Go.Proofs.YtmhejcnaanocpaaGreat.A
