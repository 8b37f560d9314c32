/- Contracts: package forest, what Check asks of a node. -/
import Derived.Test.YtmhejcnaanocpaaGreatXAskGrpAL
import Derived.Test.YtmhejcnaanocpaaGreatXAskGrpAI
namespace Go.Proofs.YtmhejcnaanocpaaGreat.A
set_option linter.unusedVariables false
set_option linter.unusedSimpArgs false
set_option maxRecDepth 100000
set_option maxHeartbeats 4000000
theorem qd {α : Type} [Inhabited α] {l : List α} {i : Int} (h0 : 0 ≤ i) (h1 : i < l.length) : l.drop i.toNat = atI l i :: l.drop (i + 1).toNat := by
  rw [show (i + 1).toNat = i.toNat + 1 by omega]
  unfold atI
  rw [List.getD_eq_getElem?_getD, List.getElem?_eq_getElem (by omega)]
  exact List.drop_eq_getElem_cons (by omega)
theorem qat {α : Type} {l : List α} {i : Int} (h : l.length ≤ i) : l.drop i.toNat = [] := List.drop_eq_nil_of_le (by omega)
def key (n : Name) : ByteArray × ByteArray := (n.sp, n.lc)
theorem qne (n : Name) : PureC Tryz.prog 176 [n.av] (.agg [sav (key n).1, sav (key n).2]) := by
  refine yq tabs Tryz.func176 8 [.cell 2 177] rfl rfl rfl rfl rfl ?_; intro w0 X
  (repeat' (first | ((with_reducible show AL _ _ _ _ _); first | (refine AL.step tabs rfl ?_; try dsimp only [len, List.nil_append, List.cons_append]) | refine ym ?_) | refine yn ?_ | refine yc ?_ | refine ya ?_ | refine yf ?_ | refine yo ?_ | refine yd ?_))
  exact RQ.fin' rfl rfl rfl
structure Trait where
  known : Bool
  data : Bool
  kids : Bool
  hung : Bool
  full : Bool
  locl : Bool
def Trait.av (t : Trait) : AV := .agg [bav t.known, bav t.data, bav t.kids, bav t.hung, bav t.full, bav t.locl]
def traitsOf (k : Int) : Trait :=
  if k = 1 then ⟨true, false, true, true, true, false⟩ else
  if k = 3 ∨ k = 4 ∨ k = 8 then ⟨true, true, false, true, false, false⟩ else
  if k = 7 then ⟨true, true, false, true, false, true⟩ else
  if k = 10 then ⟨true, false, false, true, false, true⟩ else
  if k = 9 ∨ k = 11 ∨ k = 12 then ⟨true, false, true, false, false, false⟩ else ⟨false, false, false, false, false, false⟩
theorem qdi (k : Int) : PureC Tryz.prog 141 [kav k] (traitsOf k).av := by
  have e : ∀ t, traitsOf k = t → (PureC Tryz.prog 141 [kav k] t.av → PureC Tryz.prog 141 [kav k] (traitsOf k).av) := fun t h h1 => by rw [h]; exact h1
  refine yq tabs Tryz.func141 24 [.cell 2 146] rfl rfl rfl rfl rfl ?_; intro w0 X
  (repeat' (first | ((with_reducible show AL _ _ _ _ _); first | (refine AL.step tabs rfl ?_; try dsimp only [len, List.nil_append, List.cons_append]) | refine ym ?_) | refine yn ?_ | refine yc ?_ | refine ya ?_ | refine yf ?_ | refine AW.block ?_ | refine yt ?_ | refine yh rfl ?_ | refine yg rfl ?_ | (refine yk rfl (fun hc => ?_) (fun hc => ?_) <;> (try simp only [hsx] at hc) <;> (try first | omega | contradiction | (simp [qa] at hc; done))) | refine yo ?_ | refine yy ?_ | refine yd ?_ | refine yp ?_ | refine yw ?_ | refine yr ?_ | refine InB.off rfl ?_))
  all_goals (rw [show traitsOf k = _ by unfold traitsOf; simp [*]; rfl]; first | exact RQ.fin rfl rfl rfl | exact RQ.fin' rfl rfl rfl)
noncomputable def namingB (n : Node) (t : Trait) : Bool :=
  if t.full = true then namedB n.name else
  if t.locl = true then dec (n.name.lc ≠ es) && shortB [n.name.lc] && dec (n.name.sp = es ∧ n.name.pf = es) else dec (n.name.sp = es ∧ n.name.pf = es ∧ n.name.lc = es)
theorem qk3 (n : Node) (t : Trait) : PureC Tryz.prog 142 [n.av, t.av] (bav (namingB n t)) := by
  refine yq tabs Tryz.func142 38 [.tmp 4] rfl rfl rfl rfl rfl ?_; intro w0 X
  (repeat' (first | ((with_reducible show AL _ _ _ _ _); first | (refine AL.step tabs rfl ?_; try dsimp only [len, List.nil_append, List.cons_append]) | refine AL.op rfl (yb rfl rfl rfl rfl (qi1 n.name) rfl) ?_ | refine AL.op rfl (yas rfl rfl rfl rfl (qgn [n.name.lc] (by simp)) rfl rfl) ?_ | refine ym ?_ | (refine yj rfl rfl rfl (fun hc => ?_) (fun hc => ?_) <;> (fail_if_success (exact absurd hc (by decide))) <;> (try simp only [hsx] at hc) <;> (try first | omega | contradiction | (simp [qa] at hc; done))) | (refine AL.op rfl (ya5 rfl rfl rfl rfl eqt39 rfl rfl) ?_)) | refine yn ?_ | refine yc ?_ | refine ya ?_ | refine yf ?_ | refine AW.block ?_ | refine yt ?_ | refine yh rfl ?_ | refine yg rfl ?_ | (refine yk rfl (fun hc => ?_) (fun hc => ?_) <;> (try simp only [hsx] at hc) <;> (try first | omega | contradiction | (simp [qa] at hc; done))) | refine yo ?_ | refine yy ?_ | refine yd ?_ | refine yp ?_ | refine yw ?_ | refine yr ?_ | refine InB.off rfl ?_))
  all_goals (refine RQ.fin rfl rfl (congrArg bav ?_); simp_all [namingB, es, qda, qdq, qi0])
def famGo (K : Int → Int) (doc : Bool) : List Int → Int → Int → Bool
  | [], e, d => !doc || (decide (e < 2) && decide (d < 2))
  | k :: r, e, d =>
    if K k = 1 then famGo K doc r (e + 1) d else
    if K k = 10 then (if doc = false ∨ 0 < e then false else famGo K doc r e (d + 1)) else
    if K k = 3 ∨ K k = 4 then (if doc = true then false else famGo K doc r e d) else
    if K k = 8 ∨ K k = 7 then famGo K doc r e d else false
noncomputable def famB (f : List Node) (n : Node) : Bool := famGo (fun k => (nodeAt f k).kind) (dec (n.kind = 9)) n.kids 0 0
theorem qk4 (f : List Node) (n : Node) (hl : f.length ≤ 1000000000) (hk : n.kids.length ≤ 1000000000) : PureC Tryz.prog 177 [fav f, n.av] (bav (famB f n)) := by
  refine yq tabs Tryz.func177 55 [.tmp 4] rfl rfl rfl rfl rfl ?_; intro w0 X
  (repeat' (first | ((with_reducible show AL _ _ _ _ _); first | (refine AL.step tabs rfl ?_; try dsimp only [len, List.nil_append, List.cons_append]) | refine ym ?_ | (refine yj rfl rfl rfl (fun hc => ?_) (fun hc => ?_) <;> (fail_if_success (exact absurd hc (by decide))) <;> (try simp only [hsx] at hc) <;> (try first | omega | contradiction | (simp [qa] at hc; done))) | (refine AL.op rfl (yi rfl rfl rfl rfl rfl (by omega) (by omega)) ?_) | (refine AL.op rfl (ye tabs rfl rfl rfl rfl rfl rfl rfl (fun _ => rfl) (by decide) (by omega) (by omega)) ?_)) | fail | refine yn ?_ | refine yc ?_ | refine ya ?_ | refine yf ?_ | refine AW.block ?_ | refine yt ?_ | refine yh rfl ?_ | refine yg rfl ?_ | (refine yk rfl (fun hc => ?_) (fun hc => ?_) <;> (try simp only [hsx] at hc) <;> (try first | omega | contradiction | (simp [qa] at hc; done))) | refine yo ?_ | refine yy ?_ | refine yd ?_ | refine yp ?_ | refine yw ?_ | refine yr ?_ | refine InB.off rfl ?_ | refine yz ?_ | refine yu ?_))
  refine yak (α := Int × Int × Int) (fun x => ⟨[(2, .ptr 0 1 0 0), (5, bav (dec (n.kind = 9))), (6, iav x.2.1), (7, iav x.2.2), (14, .imm (.sl (n.kids.map i64))), (15, iav (n.kids.map i64).length), (16, iav x.1)], [⟨24, 1, [[.imm (.sl (f.map Node.iv))]]⟩]⟩) (fun x => 0 ≤ x.1 ∧ x.1 ≤ n.kids.length ∧ 0 ≤ x.2.1 ∧ x.2.1 ≤ x.1 ∧ 0 ≤ x.2.2 ∧ x.2.2 ≤ x.1 ∧ famGo (fun k => (nodeAt f k).kind) (dec (n.kind = 9)) (n.kids.drop x.1.toNat) x.2.1 x.2.2 = famB f n) (fun x => (n.kids.length - x.1).toNat) (0, 0, 0) (yae 1 rfl (by repeat' (first | exact trivial | refine ⟨rfl, ?_⟩)) rfl rfl (Nat.zero_le _)) ⟨by simp, by simp, by simp, by simp, by simp, by simp, rfl⟩ ?_
  rintro ⟨i, e, d⟩ ⟨h0, h1, h3, h4, h5, h6, h2⟩
  simp only at h0 h1 h2 h3 h4 h5 h6
  (repeat' (first | ((with_reducible show AL _ _ _ _ _); first | (refine AL.step tabs rfl ?_; try dsimp only [len, List.nil_append, List.cons_append]) | refine AL.op rfl (yb rfl rfl rfl rfl (qmt f _ hl) rfl) ?_ | refine ym ?_ | (refine yj rfl rfl rfl (fun hc => ?_) (fun hc => ?_) <;> (fail_if_success (exact absurd hc (by decide))) <;> (try simp only [hsx] at hc) <;> (try first | omega | contradiction | (simp [qa] at hc; done))) | (refine AL.op rfl (yi rfl rfl rfl rfl rfl (by omega) (by omega)) ?_) | (refine AL.op rfl (ye tabs rfl rfl rfl rfl rfl rfl rfl (fun _ => rfl) (by decide) (by omega) (by omega)) ?_)) | refine yn ?_ | refine yc ?_ | refine ya ?_ | refine yf ?_ | refine AW.block ?_ | refine yt ?_ | refine yh rfl ?_ | refine yg rfl ?_ | (refine yk rfl (fun hc => ?_) (fun hc => ?_) <;> (try simp only [hsx] at hc) <;> (try first | omega | contradiction | (simp [qa] at hc; done))) | refine yo ?_ | refine yy ?_ | refine yd ?_ | refine yp ?_ | refine yw ?_ | refine yr ?_ | refine InB.off rfl ?_ | refine yz ?_ | refine yu ?_))
  all_goals first
    | (refine RQ.fin rfl rfl (congrArg bav ?_); rw [← h2]; clear h2; (first | rw [qd h0 (by assumption)] | rw [qat (by assumption)]); simp [famGo, qda, qdq, qa, *] <;> omega)
    | (refine yag (i + 1, e + 1, d) (yae 1 rfl ⟨rfl, rfl, rfl, rfl, rfl, rfl, rfl, trivial⟩ rfl rfl (Nat.zero_le _)) ⟨?_, ?_, ?_, ?_, ?_, ?_, ?_⟩ ?_ <;> simp only <;> first | omega | (rw [← h2]; clear h2; rw [qd h0 (by assumption)]; simp [famGo, qda, qdq, qa, *]; done))
    | (refine yag (i + 1, e, d + 1) (yae 1 rfl ⟨rfl, rfl, rfl, rfl, rfl, rfl, rfl, trivial⟩ rfl rfl (Nat.zero_le _)) ⟨?_, ?_, ?_, ?_, ?_, ?_, ?_⟩ ?_ <;> simp only <;> first | omega | (rw [← h2]; clear h2; rw [qd h0 (by assumption)]; simp [famGo, qda, qdq, qa, *]; done))
    | (refine yag (i + 1, e, d) (yae 1 rfl ⟨rfl, rfl, rfl, rfl, rfl, rfl, rfl, trivial⟩ rfl rfl (Nat.zero_le _)) ⟨?_, ?_, ?_, ?_, ?_, ?_, ?_⟩ ?_ <;> simp only <;> first | omega | (rw [← h2]; clear h2; rw [qd h0 (by assumption)]; simp [famGo, qda, qdq, qa, *]; done))
noncomputable def kidsGo (f : List Node) (h doc : Int) (seen : List Int) : List Int → Bool
  | [] => true
  | k :: r => if inB f k = false then false else if dec (k ∈ seen) = true then false else if dec ((nodeAt f k).parent = h) = false then false else if dec ((nodeAt f k).doc = doc) = false then false else kidsGo f h doc (seen ++ [k]) r
noncomputable def kidsB (f : List Node) (h : Int) (n : Node) : Bool := kidsGo f h n.doc [] n.kids && famB f n
theorem qk5 (f : List Node) (h : Int) (n : Node) (hl : f.length ≤ 1000000000) (hk : n.kids.length ≤ 1000000000) : PureC Tryz.prog 148 [fav f, iav h, n.av] (bav (kidsB f h n)) := by
  refine yq tabs Tryz.func148 55 [.tmp 6] rfl rfl rfl rfl rfl ?_; intro w0 X
  (repeat' (first | ((with_reducible show AL _ _ _ _ _); first | (refine AL.step tabs rfl ?_; try dsimp only [len, List.nil_append, List.cons_append]) | refine yb6 rfl rfl rfl (fun g hg => ?_) | refine ym ?_ | (refine yj rfl rfl rfl (fun hc => ?_) (fun hc => ?_) <;> (fail_if_success (exact absurd hc (by decide))) <;> (try simp only [hsx] at hc) <;> (try first | omega | contradiction | (simp [qa] at hc; done))) | (refine AL.op rfl (yi rfl rfl rfl rfl rfl (by omega) (by omega)) ?_) | (refine AL.op rfl (ye tabs rfl rfl rfl rfl rfl rfl rfl (fun _ => rfl) (by decide) (by omega) (by omega)) ?_)) | refine yn ?_ | refine yc ?_ | refine ya ?_ | refine yf ?_ | refine AW.block ?_ | refine yt ?_ | refine yh rfl ?_ | refine yg rfl ?_ | (refine yk rfl (fun hc => ?_) (fun hc => ?_) <;> (try simp only [hsx] at hc) <;> (try first | omega | contradiction | (simp [qa] at hc; done))) | refine yo ?_ | refine yy ?_ | refine yd ?_ | refine yp ?_ | refine yw ?_ | refine yr ?_ | refine InB.off rfl ?_ | refine yz ?_ | refine yu ?_))
  refine yak (α := Int) (fun i => ⟨[(1, iav h), (3, .ptr 0 1 0 0), (5, .ptr 1 1 0 0), (7, .mp g ((n.kids.take i.toNat).map i64) ((n.kids.take i.toNat).map fun _ => [.int .i64 1])), (14, .imm (.sl (n.kids.map i64))), (15, iav (n.kids.map i64).length), (16, iav i)], [⟨24, 1, [[.imm (.sl (f.map Node.iv))]]⟩, ⟨44, 16, [n.iv.map .imm]⟩]⟩) (fun i => 0 ≤ i ∧ i ≤ n.kids.length ∧ kidsGo f h n.doc (n.kids.take i.toNat) (n.kids.drop i.toNat) = kidsGo f h n.doc [] n.kids) (fun i => (n.kids.length - i).toNat) 0 (yae 2 rfl ⟨rfl, rfl, rfl, rfl, rfl, rfl, rfl, trivial⟩ rfl rfl (Nat.zero_le _)) ⟨by omega, by omega, rfl⟩ ?_
  intro i ⟨h0, h1, h2⟩
  (repeat' (first | ((with_reducible show AL _ _ _ _ _); first | (refine AL.step tabs rfl ?_; try dsimp only [len, List.nil_append, List.cons_append]) | refine AL.op rfl (yb rfl rfl rfl rfl (at_c f (atI n.kids i) hl) rfl) ?_ | refine AL.op rfl (yb rfl rfl rfl rfl (qk4 f n hl hk) rfl) ?_ | refine AL.op rfl (yck (kf := i64) key3 Tryz.underlying180 zero3 rfl rfl rfl rfl (q := atI n.kids i) rfl (by assumption)) ?_ | refine AL.op rfl (ycl (kf := i64) key3 Tryz.underlying180 zero3 rfl rfl rfl rfl rfl (q := atI n.kids i) rfl) ?_ | refine AL.op rfl (ya1 (kf := i64) key3 Tryz.underlying180 rfl (.inl rfl) hg rfl rfl (q := atI n.kids i) rfl (v := [.int .i64 (0 + 1)]) rfl (fun M z hz => qah hz) (by assumption) (by repeat' (first | exact trivial | refine ⟨rfl, ?_⟩)) rfl) ?_ | refine ym ?_ | (refine yj rfl rfl rfl (fun hc => ?_) (fun hc => ?_) <;> (fail_if_success (exact absurd hc (by decide))) <;> (try simp only [hsx] at hc) <;> (try first | omega | contradiction | (simp [qa] at hc; done))) | (refine AL.op rfl (yi rfl rfl rfl rfl rfl (by omega) (by omega)) ?_) | (refine AL.op rfl (ye tabs rfl rfl rfl rfl rfl rfl rfl (fun _ => rfl) (by decide) (by omega) (by omega)) ?_)) | refine yn ?_ | refine yc ?_ | refine ya ?_ | refine yf ?_ | refine AW.block ?_ | refine yt ?_ | refine yh rfl ?_ | refine yg rfl ?_ | (refine yk rfl (fun hc => ?_) (fun hc => ?_) <;> (try simp only [hsx] at hc) <;> (try first | omega | contradiction | (simp [qa] at hc; done))) | refine yo ?_ | refine yy ?_ | refine yd ?_ | refine yp ?_ | refine yw ?_ | refine yr ?_ | refine InB.off rfl ?_ | refine yz ?_ | refine yu ?_))
  · refine RQ.fin rfl rfl (congrArg bav ?_)
    unfold kidsB
    rw [← h2, qd h0 (by assumption)]; simp [kidsGo, hc]
  · refine RQ.fin rfl rfl (congrArg bav ?_)
    unfold kidsB
    rw [← h2, qd h0 (by assumption), kidsGo, qaw hc]; simp
  · refine RQ.fin rfl rfl (congrArg bav ?_)
    unfold kidsB
    rw [← h2, qd h0 (by assumption), kidsGo, qw hc]; simp
  · refine RQ.fin rfl rfl (congrArg bav ?_)
    unfold kidsB
    rw [← h2, qd h0 (by assumption), kidsGo, qw hc]; simp
  · have hi : i < n.kids.length := by assumption
    have hn : atI n.kids i ∉ n.kids.take i.toNat := by assumption
    have ek : n.kids.take (i + 1).toNat = n.kids.take i.toNat ++ [atI n.kids i] := qi h0 hi
    refine yag (i + 1) (yae 2 rfl ⟨rfl, rfl, rfl, (by rw [ek, List.map_append, List.map_append]; rfl), rfl, rfl, rfl, trivial⟩ rfl rfl (Nat.zero_le _)) ⟨by omega, by omega, ?_⟩ (by omega)
    rw [ek, ← h2, qd h0 hi]
    simp only [kidsGo]
    rw [qw hn]
    simp [*, qda]
  · refine RQ.fin rfl rfl (congrArg bav ?_)
    unfold kidsB
    rw [← h2, qat (by assumption)]; simp [kidsGo]
noncomputable def attrsGo (seen : List (ByteArray × ByteArray)) : List Attr → Bool
  | [] => true
  | a :: r => if namedB a.name = false then false else if 4096 < a.value.size then false else if dec (key a.name ∈ seen) = true then false else attrsGo (seen ++ [key a.name]) r
noncomputable def attrsB (l : List Attr) : Bool := decide (l.length ≤ 64) && attrsGo [] l
def akf (p : ByteArray × ByteArray) : List IV := [.str p.1, .str p.2]
theorem qfs (l : List Attr) (hl : l.length ≤ 1000000000) : PureC Tryz.prog 143 [.imm (.sl (l.map Attr.iv))] (bav (attrsB l)) := by
  refine yq tabs Tryz.func143 43 [.tmp 2] rfl rfl rfl rfl rfl ?_; intro w0 X
  (repeat' (first | ((with_reducible show AL _ _ _ _ _); first | (refine AL.step tabs rfl ?_; try dsimp only [len, List.nil_append, List.cons_append]) | refine yb6 rfl rfl rfl (fun g hg => ?_) | refine ym ?_ | (refine yj rfl rfl rfl (fun hc => ?_) (fun hc => ?_) <;> (fail_if_success (exact absurd hc (by decide))) <;> (try simp only [hsx] at hc) <;> (try first | omega | contradiction | (simp [qa] at hc; done))) | (refine AL.op rfl (yi rfl rfl rfl rfl rfl (by omega) (by omega)) ?_) | (refine AL.op rfl (ye tabs rfl rfl rfl rfl rfl rfl rfl (fun _ => rfl) (by decide) (by omega) (by omega)) ?_)) | ((with_reducible show DQ _ _ _ _ _ _); first | refine DQ.stepc (LS.val tabs rfl rfl rfl) rfl rfl rfl rfl rfl ?_ | refine DQ.stepc (yab rfl rfl) rfl rfl rfl rfl rfl ?_ | refine DQ.nilM (by kernel_rfl) ?_ | refine DQ.stepc (yaf rfl rfl rfl rfl rfl rfl (by omega) (by omega)) rfl rfl rfl rfl rfl ?_ | refine DQ.stepc (yaa tabs rfl rfl rfl rfl rfl rfl rfl rfl (fun _ => rfl) (by decide) (by omega) (by omega)) rfl rfl rfl rfl rfl ?_ | (refine DQ.gsplitE rfl rfl rfl (fun hc => ?_) (fun hc => ?_) <;> (fail_if_success (exact absurd hc (by decide))) <;> (try simp only [hsx] at hc) <;> (try first | omega | contradiction | (simp [qa] at hc; done)))) | refine yn ?_ | refine yc ?_ | refine ya ?_ | refine yf ?_ | refine AW.block ?_ | refine yt ?_ | refine yh rfl ?_ | refine yg rfl ?_ | (refine yk rfl (fun hc => ?_) (fun hc => ?_) <;> (try simp only [hsx] at hc) <;> (try first | omega | contradiction | (simp [qa] at hc; done))) | refine yo ?_ | refine yy ?_ | refine yd ?_ | refine yp ?_ | refine yw ?_ | refine yr ?_ | refine InB.off rfl ?_ | refine yz ?_ | refine yu ?_ | refine yx mixed (by kernel_rfl) ?_))
  · refine RQ.fin rfl rfl (congrArg bav ?_)
    unfold attrsB
    rw [show decide (l.length ≤ 64) = false by simp; omega]; rfl
  refine yak (α := Int) (fun i => ⟨[(3, .mp g (((l.take i.toNat).map fun a => key a.name).map akf) (((l.take i.toNat).map fun a => key a.name).map fun _ => [.int .i64 1])), (11, .imm (.sl (l.map Attr.iv))), (12, iav (l.map Attr.iv).length), (13, iav i)], []⟩) (fun i => 0 ≤ i ∧ i ≤ l.length ∧ attrsGo ((l.take i.toNat).map fun a => key a.name) (l.drop i.toNat) = attrsGo [] l) (fun i => (l.length - i).toNat) 0 (yae 0 rfl ⟨rfl, rfl, rfl, rfl, trivial⟩ rfl rfl (Nat.zero_le _)) ⟨by omega, by omega, rfl⟩ ?_
  intro i ⟨h0, h1, h2⟩
  (repeat' (first | ((with_reducible show AL _ _ _ _ _); first | (refine AL.step tabs rfl ?_; try dsimp only [len, List.nil_append, List.cons_append]) | refine AL.op rfl (yb rfl rfl rfl rfl (qne (atI l i).name) rfl) ?_ | refine AL.op rfl (yb rfl rfl rfl rfl (qi1 (atI l i).name) rfl) ?_ | refine AL.op rfl (ycl (kf := akf) key177 Tryz.underlying175 zero3 rfl rfl rfl rfl rfl (q := key (atI l i).name) rfl) ?_ | refine ym ?_ | (refine yj rfl rfl rfl (fun hc => ?_) (fun hc => ?_) <;> (fail_if_success (exact absurd hc (by decide))) <;> (try simp only [hsx] at hc) <;> (try first | omega | contradiction | (simp [qa] at hc; done))) | (refine AL.op rfl (yi rfl rfl rfl rfl rfl (by omega) (by omega)) ?_) | (refine AL.op rfl (ye tabs rfl rfl rfl rfl rfl rfl rfl (fun _ => rfl) (by decide) (by omega) (by omega)) ?_)) | ((with_reducible show DQ _ _ _ _ _ _); first | refine DQ.stepc (LS.val tabs rfl rfl rfl) rfl rfl rfl rfl rfl ?_ | refine DQ.stepc (yab rfl rfl) rfl rfl rfl rfl rfl ?_ | refine DQ.nilM (by kernel_rfl) ?_ | refine DQ.stepc (yaf rfl rfl rfl rfl rfl rfl (by omega) (by omega)) rfl rfl rfl rfl rfl ?_ | refine DQ.stepc (yaa tabs rfl rfl rfl rfl rfl rfl rfl rfl (fun _ => rfl) (by decide) (by omega) (by omega)) rfl rfl rfl rfl rfl ?_ | (refine DQ.gsplitE rfl rfl rfl (fun hc => ?_) (fun hc => ?_) <;> (fail_if_success (exact absurd hc (by decide))) <;> (try simp only [hsx] at hc) <;> (try first | omega | contradiction | (simp [qa] at hc; done)))) | refine yn ?_ | refine yc ?_ | refine ya ?_ | refine yf ?_ | refine AW.block ?_ | refine yt ?_ | refine yh rfl ?_ | refine yg rfl ?_ | (refine yk rfl (fun hc => ?_) (fun hc => ?_) <;> (try simp only [hsx] at hc) <;> (try first | omega | contradiction | (simp [qa] at hc; done))) | refine yo ?_ | refine yy ?_ | refine yd ?_ | refine yp ?_ | refine yw ?_ | refine yr ?_ | refine InB.off rfl ?_ | refine yz ?_ | refine yu ?_ ))
  · refine RQ.fin rfl rfl (congrArg bav ?_)
    unfold attrsB
    rw [← h2, qd h0 (by assumption)]; simp [attrsGo, hc]
  · have e : 4096 < (atI l i).value.size := by omega
    refine RQ.fin rfl rfl (congrArg bav ?_)
    unfold attrsB
    rw [← h2, qd h0 (by assumption)]; simp [attrsGo, e]
  · refine RQ.fin rfl rfl (congrArg bav ?_)
    unfold attrsB
    rw [← h2, qd h0 (by assumption), attrsGo, qaw hc]; simp
  · refine AW.orders mixed ?_
    have e : ¬ 4096 < (atI l i).value.size := by omega
    have hi : i < l.length := by assumption
    have ek : ((l.take (i + 1).toNat).map fun a => key a.name) = ((l.take i.toNat).map fun a => key a.name) ++ [key (atI l i).name] := by rw [qi h0 hi, List.map_append]; rfl
    repeat' (first
      | refine AS.step tabs rfl rfl ?_
      | refine AS.op rfl rfl (yck (kf := akf) key177 Tryz.underlying175 zero3 rfl rfl rfl rfl (q := key (atI l i).name) rfl hc) ?_
      | refine AS.op rfl rfl (OpOK.look2 (kf := akf) (xs := (l.take i.toNat).map fun a => key a.name) (q := key (atI l i).name) key177 Tryz.underlying175 zero3 rfl rfl rfl rfl rfl (by simp) hc) ?_
      | refine AS.op rfl rfl (yi rfl rfl rfl rfl rfl (by omega) (by omega)) ?_
      | refine AS.op rfl rfl (OpOK.ent0 (kf := akf) key177 Tryz.underlying175 zero3 rfl rfl rfl hg rfl rfl (q := key (atI l i).name) rfl hc (by repeat' (first | exact trivial | refine ⟨rfl, ?_⟩)) rfl) ?_
      | refine AS.op rfl rfl (OpOK.ent1 rfl rfl hg rfl (by simp) rfl (v := [.int .i64 (0 + 1)]) rfl (by repeat' (first | exact trivial | refine ⟨rfl, ?_⟩)) rfl) ?_
      | refine AD.nil (by decide +kernel) ?_
      | refine AD.two (i := 0) (j := 1) (by decide +kernel) ?_ ?_
      | refine AD.one (i := 0) (by decide +kernel) ?_
      | refine AD.one (i := 1) (by decide +kernel) ?_
      | refine AD.two (i := 2) (j := 4) (by decide +kernel) ?_ ?_
      | refine AD.two (i := 2) (j := 5) (by decide +kernel) ?_ ?_
      | refine AD.two (i := 3) (j := 4) (by decide +kernel) ?_ ?_
      | refine AD.two (i := 3) (j := 5) (by decide +kernel) ?_ ?_
      | refine AD.one (i := 2) (by decide +kernel) ?_
      | refine AD.one (i := 3) (by decide +kernel) ?_
      | refine AD.one (i := 4) (by decide +kernel) ?_
      | refine AD.one (i := 5) (by decide +kernel) ?_
      | refine AD.one (i := 6) (by decide +kernel) ?_)
    all_goals
      (repeat' (first | ((with_reducible show AL _ _ _ _ _); first | (refine AL.step tabs rfl ?_; try dsimp only [len, List.nil_append, List.cons_append]) | refine ym ?_ | (refine yj rfl rfl rfl (fun hc => ?_) (fun hc => ?_) <;> (fail_if_success (exact absurd hc (by decide))) <;> (try simp only [hsx] at hc) <;> (try first | omega | contradiction | (simp [qa] at hc; done))) | (refine AL.op rfl (yi rfl rfl rfl rfl rfl (by omega) (by omega)) ?_) | (refine AL.op rfl (ye tabs rfl rfl rfl rfl rfl rfl rfl (fun _ => rfl) (by decide) (by omega) (by omega)) ?_)) | ((with_reducible show DQ _ _ _ _ _ _); first | refine DQ.stepc (LS.val tabs rfl rfl rfl) rfl rfl rfl rfl rfl ?_ | refine DQ.stepc (yab rfl rfl) rfl rfl rfl rfl rfl ?_ | refine DQ.nilM (by kernel_rfl) ?_ | refine DQ.stepc (yaf rfl rfl rfl rfl rfl rfl (by omega) (by omega)) rfl rfl rfl rfl rfl ?_ | refine DQ.stepc (yaa tabs rfl rfl rfl rfl rfl rfl rfl rfl (fun _ => rfl) (by decide) (by omega) (by omega)) rfl rfl rfl rfl rfl ?_ | (refine DQ.gsplitE rfl rfl rfl (fun hc => ?_) (fun hc => ?_) <;> (fail_if_success (exact absurd hc (by decide))) <;> (try simp only [hsx] at hc) <;> (try first | omega | contradiction | (simp [qa] at hc; done)))) | refine yn ?_ | refine yc ?_ | refine ya ?_ | refine yf ?_ | refine AW.block ?_ | refine yt ?_ | refine yh rfl ?_ | refine yg rfl ?_ | (refine yk rfl (fun hc => ?_) (fun hc => ?_) <;> (try simp only [hsx] at hc) <;> (try first | omega | contradiction | (simp [qa] at hc; done))) | refine yo ?_ | refine yy ?_ | refine yd ?_ | refine yp ?_ | refine yw ?_ | refine yr ?_ | refine InB.off rfl ?_ | refine yz ?_ | refine yu ?_ | refine yx mixed (by kernel_rfl) ?_))
      refine yag (i + 1) (yae 0 rfl ⟨(by rw [ek, List.map_append, List.map_append]; rfl), rfl, rfl, rfl, trivial⟩ rfl rfl (Nat.zero_le _)) ⟨by omega, by omega, ?_⟩ (by omega)
      rw [ek, ← h2, qd h0 hi]
      simp only [attrsGo]
      rw [qw hc]
      simp [*]
  · refine RQ.fin rfl rfl (congrArg bav ?_)
    unfold attrsB
    rw [← h2, qat (by assumption), show decide (l.length ≤ 64) = true by simp; omega]; simp [attrsGo]
def m11 (n : Node) : Prop := (traitsOf n.kind).known = true ∧ namingB n (traitsOf n.kind) = true ∧ attrsB n.attrs = true
def m27 (n : Node) : Prop := shortB [n.pub, n.sys] = true ∧ (n.kind = 10 ∨ n.pub = es ∧ n.sys = es)
def m50 (n : Node) : Prop := ¬ 16384 < (n.data.length : Int) ∧ ((traitsOf n.kind).data = true ∨ ¬ 0 < (n.data.length : Int)) ∧ ((traitsOf n.kind).kids = true ∨ ¬ 0 < (n.kids.length : Int))
def m77 (n : Node) : Prop := (n.kind = 1 ∨ ¬ 0 < (n.attrs.length : Int) ∧ n.shadow = 0) ∧ (n.kind = 9 ∨ n.html = false)
def m100 (n : Node) : Prop := (traitsOf n.kind).hung = true ∨ n.parent = 0
def m200 (n : Node) : Prop := (n.kind = 12 ∧ (n.mode = 1 ∨ n.mode = 2)) ∨ (n.kind ≠ 12 ∧ n.mode = 0 ∧ n.manual = false ∧ n.host = 0)
def madeP (n : Node) : Prop := m11 n ∧ m27 n ∧ m50 n ∧ m77 n ∧ m100 n ∧ m200 n
theorem qoh (n : Node) (hd : n.data.length ≤ 1000000000) (ha : n.attrs.length ≤ 1000000000) (hk : n.kids.length ≤ 1000000000) : PureC Tryz.prog 104 [n.av] (bav (dec (madeP n))) := by
  refine yq tabs Tryz.func104 133 [.tmp 2] rfl rfl rfl rfl rfl ?_; intro w0 X
  (repeat' (first | ((with_reducible show AL _ _ _ _ _); first | (refine AL.step tabs rfl ?_; try dsimp only [len, List.nil_append, List.cons_append]) | refine AL.op rfl (yb rfl rfl rfl rfl (qdi n.kind) rfl) ?_ | refine AL.op rfl (yb rfl rfl rfl rfl (qk3 n (traitsOf n.kind)) rfl) ?_ | refine AL.op rfl (yb rfl rfl rfl rfl (qfs n.attrs ha) rfl) ?_ | refine AL.op rfl (yas rfl rfl rfl rfl (qgn [n.pub, n.sys] (by simp)) rfl rfl) ?_ | refine ym ?_ | (refine yj rfl rfl rfl (fun hc => ?_) (fun hc => ?_) <;> (fail_if_success (exact absurd hc (by decide))) <;> (try simp only [hsx] at hc) <;> (try first | omega | contradiction | (simp [qa] at hc; done)))) | refine ybd (t := 11) ⟨[(1, .ptr 0 1 0 0), (3, .ptr 1 1 0 0), (4, bav (dec (n.kind = 1))), (11, bav (dec (¬ m11 n)))], [⟨44, 16, [n.iv.map .imm]⟩, ⟨146, 6, [[bav (traitsOf n.kind).known, bav (traitsOf n.kind).data, bav (traitsOf n.kind).kids, bav (traitsOf n.kind).hung, bav (traitsOf n.kind).full, bav (traitsOf n.kind).locl]]⟩]⟩ ?_ ?_ | refine ybd (t := 27) ⟨[(1, .ptr 0 1 0 0), (3, .ptr 1 1 0 0), (4, bav (dec (n.kind = 1))), (27, bav (dec (¬ m27 n)))], [⟨44, 16, [n.iv.map .imm]⟩, ⟨146, 6, [[bav (traitsOf n.kind).known, bav (traitsOf n.kind).data, bav (traitsOf n.kind).kids, bav (traitsOf n.kind).hung, bav (traitsOf n.kind).full, bav (traitsOf n.kind).locl]]⟩]⟩ ?_ ?_ | refine ybd (t := 50) ⟨[(1, .ptr 0 1 0 0), (3, .ptr 1 1 0 0), (4, bav (dec (n.kind = 1))), (50, bav (dec (¬ m50 n)))], [⟨44, 16, [n.iv.map .imm]⟩, ⟨146, 6, [[bav (traitsOf n.kind).known, bav (traitsOf n.kind).data, bav (traitsOf n.kind).kids, bav (traitsOf n.kind).hung, bav (traitsOf n.kind).full, bav (traitsOf n.kind).locl]]⟩]⟩ ?_ ?_ | refine ybd (t := 77) ⟨[(1, .ptr 0 1 0 0), (3, .ptr 1 1 0 0), (4, bav (dec (n.kind = 1))), (77, bav (dec (¬ m77 n)))], [⟨44, 16, [n.iv.map .imm]⟩, ⟨146, 6, [[bav (traitsOf n.kind).known, bav (traitsOf n.kind).data, bav (traitsOf n.kind).kids, bav (traitsOf n.kind).hung, bav (traitsOf n.kind).full, bav (traitsOf n.kind).locl]]⟩]⟩ ?_ ?_ | refine ybd (t := 100) ⟨[(1, .ptr 0 1 0 0), (3, .ptr 1 1 0 0), (4, bav (dec (n.kind = 1))), (100, bav (dec (¬ m100 n)))], [⟨44, 16, [n.iv.map .imm]⟩, ⟨146, 6, [[bav (traitsOf n.kind).known, bav (traitsOf n.kind).data, bav (traitsOf n.kind).kids, bav (traitsOf n.kind).hung, bav (traitsOf n.kind).full, bav (traitsOf n.kind).locl]]⟩]⟩ ?_ ?_ | refine yn ?_ | refine yc ?_ | refine ya ?_ | refine yf ?_ | refine AW.block ?_ | refine yt ?_ | refine yh rfl ?_ | refine yg rfl ?_ | (refine yk rfl (fun hc => ?_) (fun hc => ?_) <;> (try simp only [hsx] at hc) <;> (try first | omega | contradiction | (simp [qa] at hc; done))) | refine yo ?_ | refine yy ?_ | refine yd ?_ | refine yp ?_ | refine yw ?_ | refine yr ?_ | refine InB.off rfl ?_))
  all_goals first
    | (refine RQ.fin rfl rfl (congrArg bav ?_); rw [Bool.eq_iff_iff]; simp only [madeP, m200, qb, Bool.not_eq_true', qg]; grind)
    | (refine Mid.of (yae 2 rfl ⟨rfl, rfl, rfl, qe3 rfl ?_, trivial⟩ rfl rfl (Nat.zero_le _)); rw [Bool.eq_iff_iff]; simp only [m11, m27, m50, m77, m100, es, qb, Bool.not_eq_true', qg]; grind)
def l1 (f : List Node) (h : Int) (n : Node) : Prop := n.parent = 0 ∨ (inB f n.parent = true ∧ (cntB (nodeAt f n.parent).kids h : Int) = 1)
def l2 (f : List Node) (h : Int) (n : Node) : Prop := (nodeAt f n.doc).kind = 9 ∧ (n.kind = 9 → n.doc = h)
def l3 (f : List Node) (h : Int) (n : Node) : Prop := n.shadow = 0 ∨ (inB f n.shadow = true ∧ (nodeAt f n.shadow).kind = 12 ∧ (nodeAt f n.shadow).host = h)
def l4 (f : List Node) (h : Int) (n : Node) : Prop := n.kind = 12 → (inB f n.host = true ∧ (nodeAt f n.host).kind = 1 ∧ (nodeAt f n.host).shadow = h ∧ (nodeAt f n.host).doc = n.doc)
def linksP (f : List Node) (h : Int) (n : Node) : Prop := l1 f h n ∧ l2 f h n ∧ l3 f h n ∧ l4 f h n ∧ kidsB f h n = true
theorem qnf (f : List Node) (h : Int) (hl : f.length ≤ 1000000000) (hk : ∀ h, (nodeAt f h).kids.length ≤ 1000000000) (hk' : (atI f (h - 1)).kids.length ≤ 1000000000) (h1 : 1 ≤ h) (h2 : h ≤ f.length) : PureC Tryz.prog 105 [fav f, iav h] (bav (dec (linksP f h (atI f (h - 1))))) := by
  refine yq tabs Tryz.func105 110 [.tmp 4] rfl rfl rfl rfl rfl ?_; intro w0 X
  (repeat' (first | ((with_reducible show AL _ _ _ _ _); first | (refine AL.step tabs rfl ?_; try dsimp only [len, List.nil_append, List.cons_append]) | refine AL.op rfl (yb rfl rfl rfl rfl (at_c f (atI f (h - 1)).parent hl) rfl) ?_ | refine AL.op rfl (yb rfl rfl rfl rfl (at_c f (atI f (h - 1)).shadow hl) rfl) ?_ | refine AL.op rfl (yb rfl rfl rfl rfl (at_c f (atI f (h - 1)).host hl) rfl) ?_ | refine AL.op rfl (yb rfl rfl rfl rfl (qmt f (atI f (h - 1)).doc hl) rfl) ?_ | refine AL.op rfl (yb rfl rfl rfl rfl (qog (nodeAt f (atI f (h - 1)).parent).kids h (hk _)) rfl) ?_ | refine AL.op rfl (yb rfl rfl rfl rfl (qk5 f h (atI f (h - 1)) hl hk') rfl) ?_ | refine ym ?_ | (refine yj rfl rfl rfl (fun hc => ?_) (fun hc => ?_) <;> (fail_if_success (exact absurd hc (by decide))) <;> (try simp only [hsx] at hc) <;> (try first | omega | contradiction | (simp [qa] at hc; done))) | (refine AL.op rfl (yi rfl rfl rfl rfl rfl (by omega) (by omega)) ?_) | (refine AL.op rfl (ye tabs rfl rfl rfl rfl rfl rfl rfl (fun _ => rfl) (by decide) (by omega) (by omega)) ?_)) | refine ybp (t := 20) (l1 f h (atI f (h - 1))) ⟨[(1, iav h), (2, .ptr 0 1 0 0), (5, .ptr 1 1 0 0)], [⟨24, 1, [[.imm (.sl (f.map Node.iv))]]⟩, ⟨44, 16, [(atI f (h - 1)).iv.map .imm]⟩]⟩ ?_ (fun ml1 => ?_) | refine ybp (t := 52) (l2 f h (atI f (h - 1))) ⟨[(1, iav h), (2, .ptr 0 1 0 0), (5, .ptr 1 1 0 0)], [⟨24, 1, [[.imm (.sl (f.map Node.iv))]]⟩, ⟨44, 16, [(atI f (h - 1)).iv.map .imm]⟩]⟩ ?_ (fun ml2 => ?_) | refine ybp (t := 55) (l3 f h (atI f (h - 1))) ⟨[(1, iav h), (2, .ptr 0 1 0 0), (5, .ptr 1 1 0 0)], [⟨24, 1, [[.imm (.sl (f.map Node.iv))]]⟩, ⟨44, 16, [(atI f (h - 1)).iv.map .imm]⟩]⟩ ?_ (fun ml3 => ?_) | refine ybp (t := 78) (l4 f h (atI f (h - 1))) ⟨[(1, iav h), (2, .ptr 0 1 0 0), (5, .ptr 1 1 0 0)], [⟨24, 1, [[.imm (.sl (f.map Node.iv))]]⟩, ⟨44, 16, [(atI f (h - 1)).iv.map .imm]⟩]⟩ ?_ (fun ml4 => ?_) | refine yn ?_ | refine yc ?_ | refine ya ?_ | refine yf ?_ | refine yh rfl ?_ | refine yg rfl ?_ | (refine yk rfl (fun hc => ?_) (fun hc => ?_) <;> (try simp only [hsx] at hc) <;> (try first | omega | contradiction | (simp [qa] at hc; done))) | refine yo ?_ | refine yd ?_))
  all_goals try (refine RQ.fin rfl rfl (congrArg bav ?_); rw [Bool.eq_iff_iff]; simp only [linksP, l1, l2, l3, l4, qb, Bool.not_eq_true', qg]; grind)
  all_goals try (refine yce ?_ (yae 2 rfl ⟨rfl, rfl, rfl, trivial⟩ rfl rfl (Nat.zero_le _)); simp only [l1, l2, l3, l4]; grind)
  refine RQ.fin rfl rfl (congrArg bav ?_)
  simp only [linksP, ml1, ml2, ml3, ml4, true_and, qmr]
def upN (f : List Node) (x : Int) : Int := aboveOf (atI f (x - 1))
def itN (f : List Node) : Nat → Int → Int
  | 0, x => x
  | k + 1, x => itN f k (upN f x)
def inR (f : List Node) (x : Int) : Prop := 1 ≤ x ∧ x ≤ f.length
def Good (f : List Node) (x : Int) : Prop := ∃ k, ¬ inR f (itN f k x)
section
variable {f : List Node} {x w : Int}
theorem qhl (h : ¬ inR f x) : Good f x := ⟨0, h⟩
theorem qai (f : List Node) : ∀ (a b : Nat) (x : Int), itN f (a + b) x = itN f b (itN f a x)
  | 0, b, x => by rw [Nat.zero_add]; rfl
  | a + 1, b, x => by
    rw [show a + 1 + b = (a + b) + 1 by omega]
    exact qai f a b (upN f x)
def Reach (f : List Node) (w x : Int) : Prop := ∃ k, 1 ≤ k ∧ itN f k w = x ∧ ∀ j, j < k → inR f (itN f j w)
theorem qd2 (h : inR f x) : Reach f x (upN f x) := ⟨1, Nat.le_refl _, rfl, fun j hj => by
  have : j = 0 := by omega
  subst this; exact h⟩
theorem qk6 (h : Reach f w x) (hx : inR f x) : Reach f w (upN f x) := by
  obtain ⟨k, h1, h2, h3⟩ := h
  refine ⟨k + 1, by omega, by rw [qai, h2]; rfl, fun j hj => ?_⟩
  rcases Nat.lt_or_ge j k with h | h
  · exact h3 j h
  · have : j = k := by omega
    subst this; rw [h2]; exact hx
theorem qen (h : Reach f w x) : Good f w ↔ Good f x := by
  obtain ⟨k, h1, h2, h3⟩ := h
  constructor
  · rintro ⟨m, hm⟩
    rcases Nat.lt_or_ge m k with h | h
    · exact absurd (h3 m h) hm
    · refine ⟨m - k, ?_⟩
      rw [← h2, ← qai, show k + (m - k) = m by omega]
      exact hm
  · rintro ⟨m, hm⟩
    refine ⟨k + m, ?_⟩
    rw [qai, h2]; exact hm
theorem qk7 (h : Reach f w x) : inR f w := by
  obtain ⟨k, h1, h2, h3⟩ := h
  exact h3 0 (by omega)
theorem qbe (h : Reach f x x) : ¬ Good f x := by
  obtain ⟨k, h1, h2, h3⟩ := h
  rintro ⟨m, hm⟩
  induction m using Nat.strongRecOn with
  | _ m ih =>
    rcases Nat.lt_or_ge m k with h | h
    · exact hm (h3 m h)
    · refine ih (m - k) (by omega) ?_
      have : itN f m x = itN f (m - k) x := by
        rw [show m = k + (m - k) by omega, qai, h2]
        congr 1
        omega
      rw [← this]; exact hm
end
theorem qt {α : Type} [Inhabited α] (l : List α) (i j : Int) (v : α) (hi : 0 ≤ i) (h1 : i < l.length) (hj : 0 ≤ j) : atI (l.set i.toNat v) j = if j = i then v else atI l j := by
  unfold atI
  simp only [List.getD_eq_getElem?_getD]
  by_cases e : j = i
  · subst e
    rw [if_pos rfl, List.getElem?_set_self (by omega)]; rfl
  · rw [if_neg e, List.getElem?_set_ne (by omega)]
def zs (st : List Int) : Nat := st.countP fun v => v == 0
theorem qmu (st : List Int) (i : Int) (v : Int) (hi : 0 ≤ i) (h1 : i < st.length) (h0 : atI st i = 0) (hv : v ≠ 0) : zs (st.set i.toNat v) + 1 = zs st := by
  have hl : i.toNat < st.length := by omega
  have e : st[i.toNat] = 0 := by
    have := qaz hi h1
    rw [List.getElem?_eq_getElem hl] at this
    rw [Option.some.inj this]; exact h0
  unfold zs
  rw [List.countP_set hl]
  have hp : 0 < st.countP (fun v => v == 0) := List.countP_pos_iff.2 ⟨st[i.toNat], List.getElem_mem hl, by rw [e]; rfl⟩
  simp [e, hv]
  omega
theorem qo5 (st : List Int) : zs st ≤ st.length := List.countP_le_length
def cI (v : Int) : List AV := [iav v]
def cB (b : Bool) : List AV := [bav b]
structure StOK (f : List Node) (st : List Int) : Prop where
  len : (st.length : Int) = f.length + 1
  at0 : atI st 0 = 0
  ok : ∀ x, inR f x → atI st x = 0 ∨ (atI st x = 2 ∧ Good f x) ∨ (atI st x = 3 ∧ ¬ Good f x)
structure WayOK (f : List Node) (st0 : List Int) (h : Int) (st way : List Int) (x : Int) : Prop where
  len : (st.length : Int) = f.length + 1
  at0 : atI st 0 = 0
  was : ∀ y, inR f y → (y ∈ way ∧ atI st y = 1) ∨ (y ∉ way ∧ atI st y = atI st0 y)
  rch : ∀ w ∈ way, Reach f w x
  fst : (x = h ∧ way = []) ∨ h ∈ way
  cnt : zs st + way.length ≤ f.length + 1
noncomputable def endsL (f : List Node) : List Bool := (List.range (f.length + 1)).map fun h : Nat => dec (1 ≤ h ∧ Good f (h : Int))
theorem qng (f : List Node) (x : Int) : PureC Tryz.prog 140 [(atI f (x - 1)).av] (iav (upN f x)) := qnd _
theorem qoi (f : List Node) (hl : f.length ≤ 1000000000) : PureC Tryz.prog 103 [fav f] (.imm (.sl ((endsL f).map fun b => [.bool b]))) := by
  have hm : (List.map Node.iv f).length = f.length := List.length_map _
  refine yq tabs Tryz.func103 101 [.tmp 2] rfl rfl rfl rfl rfl ?_; intro w0 X
  (repeat' (first | ((with_reducible show AL _ _ _ _ _); first | (refine AL.step tabs rfl ?_; try dsimp only [len, List.nil_append, List.cons_append]) | (refine AL.op rfl (yi rfl rfl rfl rfl rfl (by omega) (by omega)) ?_) | refine yad rfl (ycg tabs rfl rfl rfl rfl rfl rfl rfl (by omega) (by omega) (by omega) (by decide) rfl (by simp only [ti3]; omega)) rfl ?_ | refine ym ?_ | (refine yj rfl rfl rfl (fun hc => ?_) (fun hc => ?_) <;> (fail_if_success (exact absurd hc (by decide))) <;> (try simp only [hsx] at hc) <;> (try first | omega | contradiction | (simp [qa] at hc; done))) | (refine AL.op rfl (yi rfl rfl rfl rfl rfl (by omega) (by omega)) ?_) | (refine AL.op rfl (ye tabs rfl rfl rfl rfl rfl rfl rfl (fun _ => rfl) (by decide) (by omega) (by omega)) ?_)) | refine yn ?_ | refine yc ?_ | refine ya ?_ | refine yf ?_ | refine AW.block ?_ | refine yt ?_ | refine yh rfl ?_ | refine yg rfl ?_ | (refine yk rfl (fun hc => ?_) (fun hc => ?_) <;> (try simp only [hsx] at hc) <;> (try first | omega | contradiction | (simp [qa] at hc; done))) | refine yo ?_ | refine yy ?_ | refine yd ?_ | refine yp ?_ | refine yw ?_ | refine yr ?_ | refine InB.off rfl ?_ | refine yz ?_ | refine yu ?_))
  refine yak (α := List Int × Int) (fun y => ⟨[(1, .ptr 0 1 0 0), (3, .os 1 (f.length + 1)), (19, iav (List.map Node.iv f).length), (20, iav y.2)], [⟨24, 1, [[.imm (.sl (f.map Node.iv))]]⟩, ⟨3, 1, y.1.map cI⟩]⟩) (fun y => 0 ≤ y.2 ∧ y.2 ≤ f.length ∧ StOK f y.1 ∧ ∀ x, 1 ≤ x → x ≤ y.2 → atI y.1 x ≠ 0) (fun y => (f.length - y.2).toNat) (List.replicate (((List.map Node.iv f).length : Int) + 1).toNat 0, 0) (yae 2 (by rw [List.map_replicate]; rfl) ⟨rfl, by rw [show f.length + 1 = (((List.map Node.iv f).length : Int) + 1).toNat by omega]; rfl, rfl, rfl, trivial⟩ rfl (by simp only [List.all_cons, List.all_nil, List.all_map, Function.comp_def, cI, cB, iav, bav, AV.sc1, AV.sc0, Bool.and_true, Bool.and_self, qf]; try rfl) (Nat.zero_le _)) ⟨by simp, by simp, ⟨by simp, ?_, fun x hx => .inl ?_⟩, fun x h1 h2 => by simp only at h2; omega⟩ ?_
  · unfold atI; simp [List.getD_eq_getElem?_getD]
  · unfold atI inR at *; simp only [List.getD_eq_getElem?_getD]; rw [List.getElem?_replicate]; split <;> rfl
  rintro ⟨st, i⟩ ⟨h0, h1, hS, hz⟩
  simp only at h0 h1 hS hz
  have hSn := hS.len
  (repeat' (first | ((with_reducible show AL _ _ _ _ _); first | (refine AL.step tabs rfl ?_; try dsimp only [len, List.nil_append, List.cons_append]) | refine yad rfl (yan tabs rfl rfl rfl rfl rfl rfl rfl rfl (by have := hb.1.len; simp; omega) rfl (by omega) (by omega)) rfl ?_ | refine yad rfl (ya8 tabs rfl rfl rfl rfl (g := cI) rfl (by have := hb.1.len; omega) (by omega) (by have := hb.1.len; omega) rfl) rfl ?_ | refine yad rfl (yau tabs rfl rfl rfl rfl rfl rfl (by simp; try omega)) rfl ?_ | refine yad rfl (ycg tabs rfl rfl rfl rfl rfl rfl rfl (by omega) (by omega) (by omega) (by decide) rfl (by simp only [ti4]; omega)) rfl ?_ | refine ym ?_ | (refine yj rfl rfl rfl (fun hc => ?_) (fun hc => ?_) <;> (fail_if_success (exact absurd hc (by decide))) <;> (try simp only [hsx] at hc) <;> (try first | omega | contradiction | (simp [qa] at hc; done))) | (refine AL.op rfl (yi rfl rfl rfl rfl rfl (by omega) (by omega)) ?_) | (refine AL.op rfl (ye tabs rfl rfl rfl rfl rfl rfl rfl (fun _ => rfl) (by decide) (by omega) (by omega)) ?_)) | refine AW.seqx (x := .block 2 _) (β := List Int × List Int × Int) (fun b => ⟨[(1, .ptr 0 1 0 0), (3, .os 1 (f.length + 1)), (5, .os 2 b.2.1.length), (6, iav b.2.2), (19, iav (List.map Node.iv f).length), (20, iav i)], [⟨24, 1, [[.imm (.sl (f.map Node.iv))]]⟩, ⟨3, 1, b.1.map cI⟩, ⟨3, 1, b.2.1.map cI⟩]⟩) (fun b => WayOK f st (i + 1) b.1 b.2.1 b.2.2 ∧ (inR f b.2.2 → atI b.1 b.2.2 ≠ 0)) ?_ (fun b hb => ?_) | refine AW.seqx (x := .seq (.region 12 _ _) _) (β := Int) (fun e => ⟨[(1, .ptr 0 1 0 0), (3, .os 1 (f.length + 1)), (5, .os 2 b.2.1.length), (7, iav e), (19, iav (List.map Node.iv f).length), (20, iav i)], [⟨24, 1, [[.imm (.sl (f.map Node.iv))]]⟩, ⟨3, 1, b.1.map cI⟩, ⟨3, 1, b.2.1.map cI⟩]⟩) (fun e => (e = 2 ∧ Good f b.2.2) ∨ (e = 3 ∧ ¬ Good f b.2.2)) ?_ (fun e he => ?_) | refine yn ?_ | refine yc ?_ | refine ya ?_ | refine yf ?_ | refine AW.block ?_ | refine yt ?_ | refine yh rfl ?_ | refine yg rfl ?_ | (refine yk rfl (fun hc => ?_) (fun hc => ?_) <;> (try simp only [hsx] at hc) <;> (try first | omega | contradiction | (simp [qa] at hc; done))) | refine yo ?_ | refine yy ?_ | refine yd ?_ | refine yp ?_ | refine yw ?_ | refine yr ?_ | refine InB.off rfl ?_ | refine yz ?_ | refine yu ?_))
  · refine yak (α := List Int × List Int × Int) (fun b => ⟨[(1, .ptr 0 1 0 0), (3, .os 1 (f.length + 1)), (5, .os 2 b.2.1.length), (6, iav b.2.2), (19, iav (List.map Node.iv f).length), (20, iav i)], [⟨24, 1, [[.imm (.sl (f.map Node.iv))]]⟩, ⟨3, 1, b.1.map cI⟩, ⟨3, 1, b.2.1.map cI⟩]⟩) (fun b => WayOK f st (i + 1) b.1 b.2.1 b.2.2) (fun b => zs b.1) (st, [], i + 1) (Le.trans (Le.fresh 5 3 1 rfl rfl) (yae 3 rfl (by repeat' (first | exact trivial | refine ⟨rfl, ?_⟩)) rfl (by simp only [List.all_cons, List.all_nil, List.all_map, Function.comp_def, cI, cB, iav, bav, AV.sc1, AV.sc0, Bool.and_true, Bool.and_self, qf]; try rfl) (Nat.zero_le _))) ⟨hS.len, hS.at0, fun y hy => .inr ⟨by simp, rfl⟩, by simp, .inl ⟨rfl, rfl⟩, by have := qo5 st; simp only [List.length_nil]; omega⟩ ?_
    rintro ⟨st1, way, x⟩ hW
    simp only at hW
    have hn := hW.len
    have hcnt := hW.cnt
    (repeat' (first | ((with_reducible show AL _ _ _ _ _); first | (refine AL.step tabs rfl ?_; try dsimp only [len, List.nil_append, List.cons_append]) | (refine AL.op rfl (yi rfl rfl rfl rfl rfl (by omega) (by omega)) ?_) | refine yad rfl (yan tabs rfl rfl rfl rfl rfl rfl rfl rfl (by simp; omega) rfl (by omega) (by omega)) rfl ?_ | refine yad rfl (ya8 tabs rfl rfl rfl rfl (g := cI) rfl (by omega) (by omega) (by omega) rfl) rfl ?_ | refine yad rfl (ybw tabs rfl rfl rfl rfl rfl (g := cI) (y := 1) rfl (by omega) (by omega) (by omega) rfl rfl rfl rfl) rfl ?_ | refine yad rfl (yar tabs rfl rfl rfl rfl rfl rfl (g := cI) (ys := [x]) rfl rfl rfl rfl (SrcA.own tabs rfl rfl rfl (b := ⟨3, 1, [x].map cI⟩) rfl (by simp) rfl (by simp [cI, ti3]) (by simp [cI, iav, AV.cell])) (by simp [ti3]; omega) (by simp; omega)) rfl ?_ | refine AL.op rfl (yb rfl rfl rfl rfl (qng f x) rfl) ?_ | refine ym ?_ | (refine yj rfl rfl rfl (fun hc => ?_) (fun hc => ?_) <;> (fail_if_success (exact absurd hc (by decide))) <;> (try simp only [hsx] at hc) <;> (try first | omega | contradiction | (simp [qa] at hc; done))) | (refine AL.op rfl (yi rfl rfl rfl rfl rfl (by omega) (by omega)) ?_) | (refine AL.op rfl (ye tabs rfl rfl rfl rfl rfl rfl rfl (fun _ => rfl) (by decide) (by omega) (by omega)) ?_)) | refine yn ?_ | refine yc ?_ | refine ya ?_ | refine yf ?_ | refine AW.block ?_ | refine yt ?_ | refine yh rfl ?_ | refine yg rfl ?_ | (refine yk rfl (fun hc => ?_) (fun hc => ?_) <;> (try simp only [hsx] at hc) <;> (try first | omega | contradiction | (simp [qa] at hc; done))) | refine yo ?_ | refine yy ?_ | refine yd ?_ | refine yp ?_ | refine yw ?_ | refine yr ?_ | refine InB.off rfl ?_ | refine yz ?_ | refine yu ?_))
    · have hx : inR f x := ⟨by assumption, by assumption⟩
      refine yag (st1.set x.toNat 1, way ++ [x], upN f x) (yae 3 rfl (by repeat' (first | exact trivial | refine ⟨rfl, ?_⟩)) rfl (by simp only [List.all_cons, List.all_nil, List.all_map, Function.comp_def, cI, cB, iav, bav, AV.sc1, AV.sc0, Bool.and_true, Bool.and_self, qf]; try rfl) (Nat.zero_le _)) ⟨?_, ?_, fun y hy => ?_, fun w hw => ?_, .inr ?_, ?_⟩ ?_
      · simpa using hn
      · rw [qt _ _ _ _ (by omega) (by omega) (by omega), if_neg (by omega)]; exact hW.at0
      · have := hy.1
        rw [qt _ _ _ _ (by omega) (by omega) (by omega)]
        by_cases e : y = x
        · subst e; exact .inl ⟨by simp, by simp⟩
        · rw [if_neg e]
          rcases hW.was y hy with ⟨h1, h2⟩ | ⟨h1, h2⟩
          · exact .inl ⟨by simp [h1], h2⟩
          · exact .inr ⟨by simp [h1, e], h2⟩
      · simp only [List.mem_append, List.mem_singleton] at hw
        rcases hw with h | rfl
        · exact qk6 (hW.rch w h) hx
        · exact qd2 hx
      · rcases hW.fst with ⟨h1, h2⟩ | h
        · simp [h1]
        · simp [h]
      · have := qmu st1 x 1 (by omega) (by omega) hc (by omega)
        simp only [List.length_append, List.length_singleton]
        omega
      · have := qmu st1 x 1 (by omega) (by omega) hc (by omega)
        simp only
        omega
    all_goals exact yb5 (st1, way, x) (yae 3 rfl (by repeat' (first | exact trivial | refine ⟨rfl, ?_⟩)) rfl (by simp only [List.all_cons, List.all_nil, List.all_map, Function.comp_def, cI, cB, iav, bav, AV.sc1, AV.sc0, Bool.and_true, Bool.and_self, qf]; try rfl) (Nat.zero_le _)) ⟨hW, fun h => by first | exact hc | (unfold inR at h; simp only at h; omega)⟩
  · refine yb5 3 (yae 3 rfl (by repeat' (first | exact trivial | refine ⟨rfl, ?_⟩)) rfl (by simp only [List.all_cons, List.all_nil, List.all_map, Function.comp_def, cI, cB, iav, bav, AV.sc1, AV.sc0, Bool.and_true, Bool.and_self, qf]; try rfl) (Nat.zero_le _)) (.inr ⟨rfl, ?_⟩)
    have hx : inR f b.2.2 := ⟨by assumption, by assumption⟩
    rcases hb.1.was _ hx with ⟨h1, h2⟩ | ⟨h1, h2⟩
    · exact qbe (hb.1.rch _ h1)
    · rcases hS.ok _ hx with h | h | h
      · exact absurd (h2.trans h) (hb.2 hx)
      · exact absurd (h2.trans h.1) hc
      · exact h.2
  · refine yb5 2 (yae 3 rfl (by repeat' (first | exact trivial | refine ⟨rfl, ?_⟩)) rfl (by simp only [List.all_cons, List.all_nil, List.all_map, Function.comp_def, cI, cB, iav, bav, AV.sc1, AV.sc0, Bool.and_true, Bool.and_self, qf]; try rfl) (Nat.zero_le _)) (.inl ⟨rfl, ?_⟩)
    have hx : inR f b.2.2 := ⟨by assumption, by assumption⟩
    rcases hb.1.was _ hx with ⟨h1, h2⟩ | ⟨h1, h2⟩
    · omega
    · rcases hS.ok _ hx with h | h | h
      · omega
      · exact h.2
      · omega
  · exact yb5 2 (yae 3 rfl (by repeat' (first | exact trivial | refine ⟨rfl, ?_⟩)) rfl (by simp only [List.all_cons, List.all_nil, List.all_map, Function.comp_def, cI, cB, iav, bav, AV.sc1, AV.sc0, Bool.and_true, Bool.and_self, qf]; try rfl) (Nat.zero_le _)) (.inl ⟨rfl, qhl (by unfold inR; omega)⟩)
  · exact yb5 2 (yae 3 rfl (by repeat' (first | exact trivial | refine ⟨rfl, ?_⟩)) rfl (by simp only [List.all_cons, List.all_nil, List.all_map, Function.comp_def, cI, cB, iav, bav, AV.sc1, AV.sc0, Bool.and_true, Bool.and_self, qf]; try rfl) (Nat.zero_le _)) (.inl ⟨rfl, qhl (by unfold inR; omega)⟩)
  · obtain ⟨st1, way, x⟩ := b
    simp only at hb he
    obtain ⟨hW, hx0⟩ := hb
    have hcnt := hW.cnt
    refine yak (α := List Int × Int) (fun y => ⟨[(1, .ptr 0 1 0 0), (3, .os 1 (f.length + 1)), (7, iav e), (19, iav (List.map Node.iv f).length), (20, iav i), (71, .os 2 way.length), (72, iav way.length), (73, iav y.2)], [⟨24, 1, [[.imm (.sl (f.map Node.iv))]]⟩, ⟨3, 1, y.1.map cI⟩, ⟨3, 1, way.map cI⟩]⟩) (fun y => 0 ≤ y.2 ∧ y.2 ≤ way.length ∧ (y.1.length : Int) = f.length + 1 ∧ atI y.1 0 = 0 ∧ ∀ v, inR f v → atI y.1 v = if v ∈ way.take y.2.toNat then e else atI st1 v) (fun y => (way.length - y.2).toNat) (st1, 0) (yae 3 rfl (by repeat' (first | exact trivial | refine ⟨rfl, ?_⟩)) rfl (by simp only [List.all_cons, List.all_nil, List.all_map, Function.comp_def, cI, cB, iav, bav, AV.sc1, AV.sc0, Bool.and_true, Bool.and_self, qf]; try rfl) (Nat.zero_le _)) ⟨by simp, by simp, hW.len, hW.at0, by simp⟩ ?_
    rintro ⟨st2, j⟩ ⟨k0, k1, k2, k3, k4⟩
    simp only at k0 k1 k2 k3 k4
    have hin : ∀ j : Int, 0 ≤ j → j < way.length → inR f (atI way j) := fun j h0 h1 => qk7 (hW.rch _ (qa8 h0 h1))
    (repeat' (first | ((with_reducible show AL _ _ _ _ _); first | (refine AL.step tabs rfl ?_; try dsimp only [len, List.nil_append, List.cons_append]) | (refine AL.op rfl (yi rfl rfl rfl rfl rfl (by omega) (by omega)) ?_) | refine yad rfl (yan tabs rfl rfl rfl rfl rfl rfl rfl rfl (by simp) rfl (by omega) (by omega)) rfl ?_ | refine yad rfl (ya8 tabs rfl rfl rfl rfl (g := cI) rfl (by omega) (by omega) (by omega) rfl) rfl ?_ | refine yad rfl (yan tabs rfl rfl rfl rfl rfl rfl rfl rfl (by simp; omega) rfl (by have := hin j (by omega) (by omega); unfold inR at this; omega) (by have := hin j (by omega) (by omega); unfold inR at this; omega)) rfl ?_ | refine yad rfl (ybw tabs rfl rfl rfl rfl rfl (g := cI) (y := e) rfl (by omega) (by have := hin j (by omega) (by omega); unfold inR at this; omega) (by have := hin j (by omega) (by omega); unfold inR at this; omega) rfl rfl rfl rfl) rfl ?_ | refine ym ?_ | (refine yj rfl rfl rfl (fun hc => ?_) (fun hc => ?_) <;> (fail_if_success (exact absurd hc (by decide))) <;> (try simp only [hsx] at hc) <;> (try first | omega | contradiction | (simp [qa] at hc; done))) | (refine AL.op rfl (yi rfl rfl rfl rfl rfl (by omega) (by omega)) ?_) | (refine AL.op rfl (ye tabs rfl rfl rfl rfl rfl rfl rfl (fun _ => rfl) (by decide) (by omega) (by omega)) ?_)) | refine yn ?_ | refine yc ?_ | refine ya ?_ | refine yf ?_ | refine AW.block ?_ | refine yt ?_ | refine yh rfl ?_ | refine yg rfl ?_ | (refine yk rfl (fun hc => ?_) (fun hc => ?_) <;> (try simp only [hsx] at hc) <;> (try first | omega | contradiction | (simp [qa] at hc; done))) | refine yo ?_ | refine yy ?_ | refine yd ?_ | refine yp ?_ | refine yw ?_ | refine yr ?_ | refine InB.off rfl ?_ | refine yz ?_ | refine yu ?_))
    · have hj : j < way.length := by assumption
      have hi := hin j k0 hj
      have hi1 := hi.1
      have hi2 := hi.2
      refine yag (st2.set (atI way j).toNat e, j + 1) (yae 3 rfl (by repeat' (first | exact trivial | refine ⟨rfl, ?_⟩)) rfl (by simp only [List.all_cons, List.all_nil, List.all_map, Function.comp_def, cI, cB, iav, bav, AV.sc1, AV.sc0, Bool.and_true, Bool.and_self, qf]; try rfl) (Nat.zero_le _)) ⟨by simp only; omega, by simp only; omega, by simpa using k2, ?_, fun v hv => ?_⟩ (by simp only; omega)
      · rw [qt _ _ _ _ (by omega) (by omega) (by omega), if_neg (by omega)]; exact k3
      · have := hv.1
        rw [qt _ _ _ _ (by omega) (by omega) (by omega), qi k0 hj]
        by_cases h : v = atI way j
        · simp [h]
        · rw [if_neg h, k4 v hv]; simp [h]
    · rw [qq hc] at k4
      refine yag (st2, i + 1) (yae 2 rfl (by repeat' (first | exact trivial | refine ⟨rfl, ?_⟩)) rfl (by simp only [List.all_cons, List.all_nil, List.all_map, Function.comp_def, cI, cB, iav, bav, AV.sc1, AV.sc0, Bool.and_true, Bool.and_self, qf]; try rfl) (Nat.zero_le _)) ⟨by simp only; omega, by simp only; omega, ⟨k2, k3, fun v hv => ?_⟩, fun v hv1 hv2 => ?_⟩ (by simp only; omega)
      · rw [k4 v hv]
        split
        · rename_i hv'
          have := qen (hW.rch v hv')
          rcases he with ⟨h1, h2⟩ | ⟨h1, h2⟩
          · exact .inr (.inl ⟨h1, this.2 h2⟩)
          · exact .inr (.inr ⟨h1, fun h => h2 (this.1 h)⟩)
        · rename_i hv'
          rcases hW.was v hv with h | h
          · exact absurd h.1 hv'
          · rw [h.2]; exact hS.ok v hv
      · simp only at hv2 ⊢
        have hv : inR f v := ⟨hv1, by omega⟩
        rw [k4 v hv]
        split
        · rcases he with ⟨h1, h2⟩ | ⟨h1, h2⟩ <;> omega
        · rename_i hv'
          by_cases hvi : v = i + 1
          · rcases hW.fst with ⟨h1, h2⟩ | h
            · rw [hvi, ← h1]; exact hx0 ⟨by omega, by omega⟩
            · rw [hvi] at hv'; exact absurd h hv'
          · rcases hW.was v hv with h | h
            · exact absurd h.1 hv'
            · rw [h.2]; exact hz v hv1 (by omega)
  have hie : i = f.length := by omega
  subst hie
  refine yak (α := List Bool × Int) (fun y => ⟨[(3, .os 1 (f.length + 1)), (10, .os 2 (f.length + 1)), (87, iav ((f.length + 1 : Nat) : Int)), (88, iav y.2)], [⟨24, 1, [[.imm (.sl (f.map Node.iv))]]⟩, ⟨3, 1, st.map cI⟩, ⟨4, 1, y.1.map cB⟩]⟩) (fun y => 0 ≤ y.2 ∧ y.2 ≤ f.length + 1 ∧ (y.1.length : Int) = f.length + 1 ∧ ∀ v, 0 ≤ v → v < y.2 → atI y.1 v = dec (atI st v = 2)) (fun y => (f.length + 1 - y.2).toNat) (List.replicate (f.length + 1) false, 0) (yae 3 (by rw [List.map_replicate]; rfl) (by repeat' (first | exact trivial | refine ⟨rfl, ?_⟩)) rfl (by simp only [List.all_cons, List.all_nil, List.all_map, Function.comp_def, cI, cB, iav, bav, AV.sc1, AV.sc0, Bool.and_true, Bool.and_self, qf]; try rfl) (Nat.zero_le _)) ⟨by simp, by simp; omega, by simp, fun v h1 h2 => by simp only at h2; omega⟩ ?_
  rintro ⟨bl, j⟩ ⟨k0, k1, k2, k3⟩
  simp only at k0 k1 k2 k3
  (repeat' (first | ((with_reducible show AL _ _ _ _ _); first | (refine AL.step tabs rfl ?_; try dsimp only [len, List.nil_append, List.cons_append]) | (refine AL.op rfl (yi rfl rfl rfl rfl rfl (by omega) (by omega)) ?_) | refine yad rfl (yan tabs rfl rfl rfl rfl rfl rfl rfl rfl (by simp; omega) rfl (by omega) (by omega)) rfl ?_ | refine yad rfl (ya8 tabs rfl rfl rfl rfl (g := cI) rfl (by omega) (by omega) (by omega) rfl) rfl ?_ | refine yad rfl (ybw tabs rfl rfl rfl rfl rfl (g := cB) (y := dec (atI st j = 2)) rfl (by omega) (by omega) (by omega) rfl rfl rfl rfl) rfl ?_ | refine ym ?_ | (refine yj rfl rfl rfl (fun hc => ?_) (fun hc => ?_) <;> (fail_if_success (exact absurd hc (by decide))) <;> (try simp only [hsx] at hc) <;> (try first | omega | contradiction | (simp [qa] at hc; done))) | (refine AL.op rfl (yi rfl rfl rfl rfl rfl (by omega) (by omega)) ?_) | (refine AL.op rfl (ye tabs rfl rfl rfl rfl rfl rfl rfl (fun _ => rfl) (by decide) (by omega) (by omega)) ?_)) | refine yn ?_ | refine yc ?_ | refine ya ?_ | refine yf ?_ | refine AW.block ?_ | refine yt ?_ | refine yh rfl ?_ | refine yg rfl ?_ | (refine yk rfl (fun hc => ?_) (fun hc => ?_) <;> (try simp only [hsx] at hc) <;> (try first | omega | contradiction | (simp [qa] at hc; done))) | refine yo ?_ | refine yy ?_ | refine yd ?_ | refine yp ?_ | refine yw ?_ | refine yr ?_ | refine InB.off rfl ?_ | refine yz ?_ | refine yu ?_))
  · refine yag (bl.set j.toNat (dec (atI st j = 2)), j + 1) (yae 3 rfl (by repeat' (first | exact trivial | refine ⟨rfl, ?_⟩)) rfl (by simp only [List.all_cons, List.all_nil, List.all_map, Function.comp_def, cI, cB, iav, bav, AV.sc1, AV.sc0, Bool.and_true, Bool.and_self, qf]; try rfl) (Nat.zero_le _)) ⟨by simp only; omega, by simp only; omega, by simpa using k2, fun v h1 h2 => ?_⟩ (by simp only; omega)
    simp only at h2 ⊢
    rw [qt _ _ _ _ (by omega) (by omega) (by omega)]
    by_cases h : v = j
    · simp [h]
    · rw [if_neg h]; exact k3 v h1 (by omega)
  · have e : bl = endsL f := by
      apply List.ext_getElem?
      intro m
      rcases Nat.lt_or_ge m (f.length + 1) with h | h
      · have e1 := qaz (xs := bl) (j := (m : Int)) (by omega) (by omega)
        simp only [Int.toNat_natCast] at e1
        rw [e1, k3 m (by omega) (by omega)]
        unfold endsL
        rw [List.getElem?_map, List.getElem?_range h]
        simp only [Option.map_some, Option.some.injEq]
        congr 1
        apply propext
        by_cases h0 : 1 ≤ m
        · have hr : inR f (m : Int) := ⟨by omega, by omega⟩
          have h1 := hz m (by omega) (by omega)
          rcases hS.ok _ hr with h2 | h2 | h2
          · exact absurd h2 h1
          · exact ⟨fun _ => ⟨h0, h2.2⟩, fun _ => h2.1⟩
          · exact ⟨fun h => by omega, fun h => absurd h.2 h2.2⟩
        · have : m = 0 := by omega
          subst this
          have := hS.at0
          constructor
          · intro h
            have : atI st 0 = 2 := h
            omega
          · intro h; omega
      · rw [List.getElem?_eq_none (by omega), List.getElem?_eq_none (by unfold endsL; simp; omega)]
    rw [← e]
    exact yao rfl (Fz.os rfl (by simp; omega) (by simp [cB, bav]))
end Go.Proofs.YtmhejcnaanocpaaGreat.A
