/- Contracts: package forest, Check and right; package tree, Fault, At, Text, Data. -/
import Derived.Test.YtmhejcnaanocpaaGreatXAskGrpAM
import Derived.Test.YtmhejcnaanocpaaGreatXAskGrpAI
namespace Go.Proofs.YtmhejcnaanocpaaGreat.A
set_option linter.unusedVariables false
set_option linter.unusedSimpArgs false
set_option maxRecDepth 100000
set_option maxHeartbeats 4000000
structure FitN (n : Node) : Prop where
  data : n.data.length ≤ 1000000000
  attrs : n.attrs.length ≤ 1000000000
  kids : n.kids.length ≤ 1000000000
structure Fit (f : List Node) : Prop where
  len : f.length ≤ 1000000000
  node : ∀ n ∈ f, FitN n
theorem fit0 : FitN n0 := ⟨by simp [n0], by simp [n0], by simp [n0]⟩
theorem Fit.at {f : List Node} (h : Fit f) (x : Int) : FitN (nodeAt f x) := by
  unfold nodeAt
  split
  · rename_i hx
    exact h.node _ (qa8 (by omega) (by omega))
  · exact fit0
theorem Fit.atI {f : List Node} (h : Fit f) (x : Int) (h0 : 0 ≤ x) (h1 : x < f.length) : FitN (atI f x) := h.node _ (qa8 h0 h1)
def okP (f : List Node) (i : Int) (n : Node) : Prop := madeP n ∧ linksP f (i + 1) n ∧ Good f (i + 1)
noncomputable def chkGo (f : List Node) : List Node → Int → Int × Int
  | [], _ => (0, 0)
  | n :: r, i => if dec (okP f i n) = true then chkGo f r (i + 1) else (5, i + 1)
noncomputable def checkR (f : List Node) : Int × Int := if 4096 < f.length then (5, 0) else chkGo f f 0
theorem qi2 (f : List Node) (i : Int) (h0 : 0 ≤ i) (h1 : i < f.length) : atI (endsL f) (i + 1) = dec (Good f (i + 1)) := by
  have hl : (i + 1).toNat < f.length + 1 := by omega
  unfold atI endsL
  rw [List.getD_eq_getElem?_getD, List.getElem?_map, List.getElem?_range hl]
  simp only [Option.map_some, Option.getD_some]
  congr 1
  apply propext
  rw [show (((i + 1).toNat : Nat) : Int) = i + 1 by omega]
  exact ⟨fun h => h.2, fun h => ⟨by omega, h⟩⟩
theorem qi3 (f : List Node) (hf : Fit f) : PureC Tryz.prog 93 [fav f] (.tup [iav (checkR f).1, iav (checkR f).2]) := by
  have hl := hf.len
  have hm : (List.map Node.iv f).length = f.length := List.length_map _
  have hel : ((endsL f).map fun b => [IV.bool b]).length = f.length + 1 := by unfold endsL; simp
  have hel' : (endsL f).length = f.length + 1 := by unfold endsL; simp
  refine yq tabs Tryz.func93 42 [.tmp 2, .tmp 3] rfl rfl rfl rfl rfl ?_; intro w0 X
  (repeat' (first | ((with_reducible show AL _ _ _ _ _); first | (refine AL.step tabs rfl ?_; try dsimp only [len, List.nil_append, List.cons_append]) | refine AL.op rfl (yb rfl rfl rfl rfl (qoi f hl) rfl) ?_ | refine ym ?_ | (refine yj rfl rfl rfl (fun hc => ?_) (fun hc => ?_) <;> (fail_if_success (exact absurd hc (by decide))) <;> (try simp only [hsx] at hc) <;> (try first | omega | contradiction | (simp [qa] at hc; done))) | (refine AL.op rfl (yi rfl rfl rfl rfl rfl (by omega) (by omega)) ?_) | (refine AL.op rfl (ye tabs rfl rfl rfl rfl rfl rfl rfl (fun _ => rfl) (by decide) (by omega) (by omega)) ?_)) | refine yn ?_ | refine yc ?_ | refine ya ?_ | refine yf ?_ | refine AW.block ?_ | refine yt ?_ | refine yh rfl ?_ | refine yg rfl ?_ | (refine yk rfl (fun hc => ?_) (fun hc => ?_) <;> (try simp only [hsx] at hc) <;> (try first | omega | contradiction | (simp [qa] at hc; done))) | refine yo ?_ | refine yy ?_ | refine yd ?_ | refine yp ?_ | refine yw ?_ | refine yr ?_ | refine InB.off rfl ?_ | refine yz ?_ | refine yu ?_))
  · rw [show checkR f = (5, 0) by unfold checkR; rw [if_pos (by omega)]]
    exact RQ.fin rfl rfl rfl
  rw [show checkR f = chkGo f f 0 by unfold checkR; rw [if_neg (by omega)]]
  refine yak (α := Int) (fun i => ⟨[(1, .ptr 0 1 0 0), (4, .imm (.sl ((endsL f).map fun b => [.bool b]))), (14, .imm (.sl (f.map Node.iv))), (15, iav (List.map Node.iv f).length), (16, iav i)], [⟨24, 1, [[.imm (.sl (f.map Node.iv))]]⟩]⟩) (fun i => 0 ≤ i ∧ i ≤ f.length ∧ chkGo f (f.drop i.toNat) i = chkGo f f 0) (fun i => (f.length - i).toNat) 0 (yae 1 rfl (by repeat' (first | exact trivial | refine ⟨rfl, ?_⟩)) rfl rfl (Nat.zero_le _)) ⟨by omega, by omega, rfl⟩ ?_
  intro i ⟨h0, h1, h2⟩
  (repeat' (first | ((with_reducible show AL _ _ _ _ _); first | (refine AL.step tabs rfl ?_; try dsimp only [len, List.nil_append, List.cons_append]) | refine AL.op rfl (yb rfl rfl rfl rfl (qoh (atI f i) (hf.atI i (by omega) (by omega)).data (hf.atI i (by omega) (by omega)).attrs (hf.atI i (by omega) (by omega)).kids) rfl) ?_ | refine AL.op rfl (yb rfl rfl rfl rfl (by have := qnf f (i + 1) hl (fun h => (hf.at h).kids) (by rw [show i + 1 - 1 = i by omega]; exact (hf.atI i (by omega) (by omega)).kids) (by omega) (by omega); rw [show i + 1 - 1 = i by omega] at this; exact this) rfl) ?_ | refine ym ?_ | (refine yj rfl rfl rfl (fun hc => ?_) (fun hc => ?_) <;> (fail_if_success (exact absurd hc (by decide))) <;> (try simp only [hsx] at hc) <;> (try first | omega | contradiction | (simp [qa] at hc; done))) | (refine AL.op rfl (yi rfl rfl rfl rfl rfl (by omega) (by omega)) ?_) | (refine AL.op rfl (ye tabs rfl rfl rfl rfl rfl rfl rfl (fun _ => rfl) (by decide) (by omega) (by omega)) ?_)) | refine yn ?_ | refine yc ?_ | refine ya ?_ | refine yf ?_ | refine AW.block ?_ | refine yt ?_ | refine yh rfl ?_ | refine yg rfl ?_ | (refine yk rfl (fun hc => ?_) (fun hc => ?_) <;> (try simp only [hsx] at hc) <;> (try first | omega | contradiction | (simp [qa] at hc; done))) | refine yo ?_ | refine yy ?_ | refine yd ?_ | refine yp ?_ | refine yw ?_ | refine yr ?_ | refine InB.off rfl ?_ | refine yz ?_ | refine yu ?_))
  all_goals first
    | (have hn : ¬ okP f i (atI f i) := by
         intro hk
         obtain ⟨a1, a2, a3⟩ := hk
         first | exact hc a1 | exact hc a2 | (rw [qi2 f i h0 (by assumption), qg] at hc; exact hc a3)
       rw [← h2, qd h0 (by assumption), chkGo, if_neg (by rw [qb]; exact hn)]
       exact RQ.fin rfl rfl rfl)
    | (rw [qi2 f i h0 (by assumption), qb] at hc
       refine yag (i + 1) (yae 1 rfl (by repeat' (first | exact trivial | refine ⟨rfl, ?_⟩)) rfl rfl (Nat.zero_le _)) ⟨by omega, by omega, ?_⟩ (by omega)
       rw [← h2, qd h0 (by assumption), chkGo, if_pos (by rw [qb]; exact ⟨by assumption, by assumption, hc⟩)])
    | (rw [← h2, qat hc]; exact RQ.fin rfl rfl rfl)
def rightP (f : List Node) : Prop := f.length ≤ 4096 ∧ ∀ i : Int, 0 ≤ i → i < f.length → okP f i (atI f i)
theorem qeo (f : List Node) : ∀ (l : List Node) (i : Int), ((chkGo f l i).1 = 0 ∨ (chkGo f l i).1 = 5) ∧ ((chkGo f l i).1 = 0 ↔ ∀ j : Int, 0 ≤ j → j < l.length → okP f (i + j) (atI l j))
  | [], i => by simp [chkGo]; intro j h0 h1; omega
  | n :: r, i => by
    obtain ⟨h1, h2⟩ := qeo f r (i + 1)
    rw [chkGo]
    have at0 : atI (n :: r) 0 = n := rfl
    by_cases h : okP f i n
    · rw [if_pos (by rw [qb]; exact h)]
      refine ⟨h1, h2.trans ⟨fun hj j h0 h1 => ?_, fun hj j h0 h1 => ?_⟩⟩
      · by_cases e : j = 0
        · subst e; rw [Int.add_zero, at0]; exact h
        · have := hj (j - 1) (by omega) (by simp at h1; omega)
          rw [show i + 1 + (j - 1) = i + j by omega] at this
          rw [show atI (n :: r) j = atI r (j - 1) by unfold atI; rw [show j.toNat = (j - 1).toNat + 1 by omega]; rfl]
          exact this
      · have := hj (j + 1) (by omega) (by simp; omega)
        rw [show i + (j + 1) = i + 1 + j by omega] at this
        rw [show atI (n :: r) (j + 1) = atI r j by unfold atI; rw [show (j + 1).toNat = j.toNat + 1 by omega]; rfl] at this
        exact this
    · rw [if_neg (by rw [qb]; exact h)]
      refine ⟨.inr rfl, ⟨fun h5 => by simp at h5, fun hj => ?_⟩⟩
      have := hj 0 (by omega) (by simp)
      rw [Int.add_zero, at0] at this
      exact absurd this h
theorem qb2 (f : List Node) : ((checkR f).1 = 0 ∨ (checkR f).1 = 5) ∧ ((checkR f).1 = 0 ↔ rightP f) := by
  unfold checkR rightP
  split
  · rename_i h
    refine ⟨.inr rfl, ⟨fun h5 => by simp at h5, fun h6 => ?_⟩⟩
    omega
  · rename_i h
    obtain ⟨h1, h2⟩ := qeo f f 0
    refine ⟨h1, h2.trans ?_⟩
    simp only [Int.zero_add]
    exact ⟨fun h3 => ⟨by omega, h3⟩, fun h3 => h3.2⟩
theorem qh2 (f : List Node) : (checkR f).1 = if dec (rightP f) = true then 0 else 5 := by
  obtain ⟨h1, h2⟩ := qb2 f
  by_cases h : rightP f
  · rw [if_pos (by rw [qb]; exact h)]; exact h2.2 h
  · rw [if_neg (by rw [qb]; exact h)]
    rcases h1 with h1 | h1
    · exact absurd (h2.1 h1) h
    · exact h1
theorem qbn (f : List Node) (hf : Fit f) : PureC Tryz.prog 69 [fav f] (bav (dec (rightP f))) := by
  rw [show rightP f = ((checkR f).1 = 0) by rw [(qb2 f).2]]
  refine yq tabs Tryz.func69 12 [.tmp 2] rfl rfl rfl rfl rfl ?_; intro w0 X
  (repeat' (first | ((with_reducible show AL _ _ _ _ _); first | (refine AL.step tabs rfl ?_; try dsimp only [len, List.nil_append, List.cons_append]) | refine AL.op rfl (yb rfl rfl rfl rfl (qi3 f hf) rfl) ?_ | refine ym ?_) | refine yn ?_ | refine yc ?_ | refine ya ?_ | refine yf ?_ | refine yo ?_ | refine yd ?_))
  all_goals exact RQ.fin rfl rfl rfl
noncomputable def faultR (f : List Node) (l : List Int) : Int := if dec (rightP f) = true then (if (l.all fun h => inB f h) = true then 0 else 2) else 5
theorem qi4 (f : List Node) (l : List Int) (hf : Fit f) (hl : l.length ≤ 1000000000) : PureC Tryz.prog 76 [fav f, .imm (.sl (l.map i64))] (iav (faultR f l)) := by
  have hfl := hf.len
  have hck := qh2 f
  have hz := qb2 f
  refine yq tabs Tryz.func76 33 [.tmp 4] rfl rfl rfl rfl rfl ?_; intro w0 X
  (repeat' (first | ((with_reducible show AL _ _ _ _ _); first | (refine AL.step tabs rfl ?_; try dsimp only [len, List.nil_append, List.cons_append]) | refine AL.op rfl (yb rfl rfl rfl rfl (qi3 f hf) rfl) ?_ | refine ym ?_ | (refine yj rfl rfl rfl (fun hc => ?_) (fun hc => ?_) <;> (fail_if_success (exact absurd hc (by decide))) <;> (try simp only [hsx] at hc) <;> (try first | omega | contradiction | (simp [qa] at hc; done))) | (refine AL.op rfl (yi rfl rfl rfl rfl rfl (by omega) (by omega)) ?_) | (refine AL.op rfl (ye tabs rfl rfl rfl rfl rfl rfl rfl (fun _ => rfl) (by decide) (by omega) (by omega)) ?_)) | refine yn ?_ | refine yc ?_ | refine ya ?_ | refine yf ?_ | refine AW.block ?_ | refine yt ?_ | refine yh rfl ?_ | refine yg rfl ?_ | (refine yk rfl (fun hc => ?_) (fun hc => ?_) <;> (try simp only [hsx] at hc) <;> (try first | omega | contradiction | (simp [qa] at hc; done))) | refine yo ?_ | refine yy ?_ | refine yd ?_ | refine yp ?_ | refine yw ?_ | refine yr ?_ | refine InB.off rfl ?_ | refine yz ?_ | refine yu ?_))
  · have hr : ¬ rightP f := fun h => hc (hz.2.2 h)
    unfold faultR
    rw [if_neg (by rw [qb]; exact hr)]
    rw [hz.1.resolve_left hc]
    exact RQ.fin rfl rfl rfl
  have hr : rightP f := hz.2.1 hc
  unfold faultR
  rw [if_pos (by rw [qb]; exact hr)]
  refine yak (α := Int) (fun i => ⟨[(2, .ptr 0 1 0 0), (17, .imm (.sl (l.map i64))), (18, iav (l.map i64).length), (19, iav i)], [⟨24, 1, [[.imm (.sl (f.map Node.iv))]]⟩]⟩) (fun i => 0 ≤ i ∧ i ≤ l.length ∧ ((l.take i.toNat).all fun h => inB f h) = true) (fun i => (l.length - i).toNat) 0 (yae 1 rfl (by repeat' (first | exact trivial | refine ⟨rfl, ?_⟩)) rfl rfl (Nat.zero_le _)) ⟨by omega, by omega, rfl⟩ ?_
  intro i ⟨h0, h1, h2⟩
  (repeat' (first | ((with_reducible show AL _ _ _ _ _); first | (refine AL.step tabs rfl ?_; try dsimp only [len, List.nil_append, List.cons_append]) | refine ym ?_ | (refine yj rfl rfl rfl (fun hc => ?_) (fun hc => ?_) <;> (fail_if_success (exact absurd hc (by decide))) <;> (try simp only [hsx] at hc) <;> (try first | omega | contradiction | (simp [qa] at hc; done))) | (refine AL.op rfl (yi rfl rfl rfl rfl rfl (by omega) (by omega)) ?_) | (refine AL.op rfl (ye tabs rfl rfl rfl rfl rfl rfl rfl (fun _ => rfl) (by decide) (by omega) (by omega)) ?_)) | refine yn ?_ | refine yc ?_ | refine ya ?_ | refine yf ?_ | refine AW.block ?_ | refine yt ?_ | refine yh rfl ?_ | refine yg rfl ?_ | (refine yk rfl (fun hc => ?_) (fun hc => ?_) <;> (try simp only [hsx] at hc) <;> (try first | omega | contradiction | (simp [qa] at hc; done))) | refine yo ?_ | refine yy ?_ | refine yd ?_ | refine yp ?_ | refine yw ?_ | refine yr ?_ | refine InB.off rfl ?_ | refine yz ?_ | refine yu ?_))
  all_goals first
    | (have hn : (l.all fun h => inB f h) = false := by
         rw [List.all_eq_false]
         exact ⟨_, qa8 h0 (by assumption), by simp only [inB, decide_eq_true_eq]; omega⟩
       rw [hn]
       exact RQ.fin rfl rfl rfl)
    | (refine yag (i + 1) (yae 1 rfl (by repeat' (first | exact trivial | refine ⟨rfl, ?_⟩)) rfl rfl (Nat.zero_le _)) ⟨by omega, by omega, ?_⟩ (by omega)
       rw [qi h0 (by assumption), List.all_append, h2]
       simp only [List.all_cons, List.all_nil, Bool.and_true, Bool.true_and, inB, decide_eq_true_eq]
       omega)
    | (rw [qq hc] at h2; rw [h2]; exact RQ.fin rfl rfl rfl)
theorem qz (f : List Node) (h : Int) (hl : f.length ≤ 1000000000) : PureC Tryz.prog 40 [fav f, iav h] (nodeAt f h).av := by
  unfold nodeAt
  refine yq tabs Tryz.func40 21 [.cell 4 44] rfl rfl rfl rfl rfl ?_; intro w0 X
  (repeat' (first | ((with_reducible show AL _ _ _ _ _); first | (refine AL.step tabs rfl ?_; try dsimp only [len, List.nil_append, List.cons_append]) | refine ym ?_ | (refine yj rfl rfl rfl (fun hc => ?_) (fun hc => ?_) <;> (fail_if_success (exact absurd hc (by decide))) <;> (try simp only [hsx] at hc) <;> (try first | omega | contradiction | (simp [qa] at hc; done))) | (refine AL.op rfl (yi rfl rfl rfl rfl rfl (by omega) (by omega)) ?_) | (refine AL.op rfl (ye tabs rfl rfl rfl rfl rfl rfl rfl (fun _ => rfl) (by decide) (by omega) (by omega)) ?_)) | refine yn ?_ | refine yc ?_ | refine ya ?_ | refine yf ?_ | refine yh rfl ?_ | refine yg rfl ?_ | (refine yk rfl (fun hc => ?_) (fun hc => ?_) <;> (try simp only [hsx] at hc) <;> (try first | omega | contradiction | (simp [qa] at hc; done))) | refine yo ?_ | refine yd ?_))
  all_goals first
    | (rw [if_neg (by omega)]; exact RQ.fin rfl rfl rfl)
    | (rw [if_pos (by omega)]; exact RQ.fin rfl rfl rfl)
def textB (k : Int) : Prop := k = 3 ∨ k = 4
theorem qhm (k : Int) : PureC Tryz.prog 60 [kav k] (bav (dec (textB k))) := by
  refine yq tabs Tryz.func60 9 [.tmp 2] rfl rfl rfl rfl rfl ?_; intro w0 X
  (repeat' (first | ((with_reducible show AL _ _ _ _ _); first | (refine AL.step tabs rfl ?_; try dsimp only [len, List.nil_append, List.cons_append]) | refine ym ?_ | (refine yj rfl rfl rfl (fun hc => ?_) (fun hc => ?_) <;> (fail_if_success (exact absurd hc (by decide))) <;> (try simp only [hsx] at hc) <;> (try first | omega | contradiction | (simp [qa] at hc; done)))) | refine yn ?_ | refine yc ?_ | refine ya ?_ | refine yf ?_ | refine yo ?_ | refine yd ?_))
  all_goals (refine RQ.fin rfl rfl (congrArg bav ?_); rw [Bool.eq_iff_iff]; simp only [textB, qb]; grind)
def dataB (k : Int) : Prop := textB k ∨ k = 8 ∨ k = 7
theorem qmv (k : Int) : PureC Tryz.prog 77 [kav k] (bav (dec (dataB k))) := by
  refine yq tabs Tryz.func77 13 [.tmp 2] rfl rfl rfl rfl rfl ?_; intro w0 X
  (repeat' (first | ((with_reducible show AL _ _ _ _ _); first | (refine AL.step tabs rfl ?_; try dsimp only [len, List.nil_append, List.cons_append]) | refine AL.op rfl (yb rfl rfl rfl rfl (qhm k) rfl) ?_ | refine ym ?_ | (refine yj rfl rfl rfl (fun hc => ?_) (fun hc => ?_) <;> (fail_if_success (exact absurd hc (by decide))) <;> (try simp only [hsx] at hc) <;> (try first | omega | contradiction | (simp [qa] at hc; done)))) | refine yn ?_ | refine yc ?_ | refine ya ?_ | refine yf ?_ | refine yo ?_ | refine yd ?_))
  all_goals (refine RQ.fin rfl rfl (congrArg bav ?_); rw [Bool.eq_iff_iff]; simp only [dataB, qb]; grind)
structure Change where
  kind : Int
  node : Int
  parent : Int
  index : Int
  other : Int
  doc : Int
  offset : Int
  count : Int
  data : List Int
  name : Name
  old : ByteArray
  value : ByteArray
  had : Bool
  has : Bool
  made : Node
  added : List Int
  removed : List Int
  prev : Int
  next : Int
def Change.iv (c : Change) : List IV := [.int .u8 c.kind, .int .i64 c.node, .int .i64 c.parent, .int .i64 c.index, .int .i64 c.other, .int .i64 c.doc, .int .i64 c.offset, .int .i64 c.count, .sl (c.data.map u16), .str c.name.sp, .str c.name.pf, .str c.name.lc, .str c.old, .str c.value, .bool c.had, .bool c.has, .int .u8 c.made.kind, .str c.made.name.sp, .str c.made.name.pf, .str c.made.name.lc, .str c.made.pub, .str c.made.sys, .sl (c.made.data.map u16), .sl (c.made.attrs.map Attr.iv), .int .i64 c.made.parent, .sl (c.made.kids.map i64), .int .i64 c.made.doc, .int .i64 c.made.host, .int .i64 c.made.shadow, .int .u8 c.made.mode, .bool c.made.manual, .bool c.made.html, .sl (c.added.map i64), .sl (c.removed.map i64), .int .i64 c.prev, .int .i64 c.next]
def Change.av (c : Change) : AV := .agg (c.iv.map .imm)
def e0 : Name := ⟨es, es, es⟩
def c0 : Change := ⟨0, 0, 0, 0, 0, 0, 0, 0, [], e0, es, es, false, false, n0, [], [], 0, 0⟩
instance : Inhabited Change := ⟨c0⟩
theorem qc5 (a b : Name) : a = b ↔ a.sp = b.sp ∧ a.pf = b.pf ∧ a.lc = b.lc := by
  cases a; cases b; simp
theorem qi5 (a b : Attr) : a = b ↔ a.name = b.name ∧ a.value = b.value := by
  cases a; cases b; simp
theorem qgo (a b : Node) : a = b ↔ a.data = b.data ∧ a.attrs = b.attrs ∧ a.kids = b.kids ∧ a.kind = b.kind ∧ a.name = b.name ∧ a.pub = b.pub ∧ a.sys = b.sys ∧ a.parent = b.parent ∧ a.doc = b.doc ∧ a.host = b.host ∧ a.shadow = b.shadow ∧ a.mode = b.mode ∧ a.manual = b.manual ∧ a.html = b.html := by
  cases a; cases b; simp; grind
theorem qi6 (a b : Change) : a = b ↔ a.data = b.data ∧ a.made = b.made ∧ a.added = b.added ∧ a.removed = b.removed ∧ (a.kind = b.kind ∧ a.node = b.node ∧ a.parent = b.parent ∧ a.index = b.index ∧ a.other = b.other ∧ a.doc = b.doc ∧ a.offset = b.offset ∧ a.count = b.count ∧ a.prev = b.prev) ∧ a.next = b.next ∧ a.name = b.name ∧ a.old = b.old ∧ a.value = b.value ∧ a.had = b.had ∧ a.has = b.has := by
  cases a; cases b; simp; grind
theorem eqt141 : EqT Tryz.prog 141 (eqvI 9) := eqtI (by kernel_rfl) Tryz.underlying141 tk3 rfl rfl Tryz.underlying3
theorem qc6 {α : Type} [Inhabited α] {a b : List α} {i : Int} (h : atI a i ≠ atI b i) : ¬ a = b := fun e => h (by rw [e])
theorem qi7 (a b : List Int) (hl : a.length ≤ 1000000000) : PureC Tryz.prog 131 [.imm (.sl (a.map u16)), .imm (.sl (b.map u16))] (bav (dec (a = b))) := by
  refine yq tabs Tryz.func131 26 [.tmp 4] rfl rfl rfl rfl rfl ?_; intro w0 X
  (repeat' (first | ((with_reducible show AL _ _ _ _ _); first | (refine AL.step tabs rfl ?_; try dsimp only [len, List.nil_append, List.cons_append]) | refine ym ?_ | (refine AL.op rfl (yi rfl rfl rfl rfl rfl (by omega) (by omega)) ?_) | (refine AL.op rfl (ye tabs rfl rfl rfl rfl rfl rfl rfl (fun _ => rfl) (by decide) (by omega) (by omega)) ?_)) | ((with_reducible show DQ _ _ _ _ _ _); first | refine DQ.stepc (LS.val tabs rfl rfl rfl) rfl rfl rfl rfl rfl ?_ | refine DQ.stepc (yab rfl rfl) rfl rfl rfl rfl rfl ?_ | refine DQ.nilM (by kernel_rfl) ?_ | refine DQ.stepc (yaf rfl rfl rfl rfl rfl rfl (by omega) (by omega)) rfl rfl rfl rfl rfl ?_ | refine DQ.stepc (yaa tabs rfl rfl rfl rfl rfl rfl rfl rfl (fun _ => rfl) (by decide) (by omega) (by omega)) rfl rfl rfl rfl rfl ?_) | fail | refine yn ?_ | refine yc ?_ | refine ya ?_ | refine yf ?_ | refine AW.block ?_ | refine yt ?_ | refine yh rfl ?_ | refine yg rfl ?_ | (refine yk rfl (fun hc => ?_) (fun hc => ?_) <;> (try simp only [hsx] at hc) <;> (try first | omega | contradiction | (simp [qa] at hc; done))) | refine yo ?_ | refine yy ?_ | refine yd ?_ | refine yp ?_ | refine yw ?_ | refine yr ?_ | refine InB.off rfl ?_ | refine yz ?_ | refine yu ?_ | refine yx mixed (by kernel_rfl) ?_))
  · rw [qw (p := a = b) (fun e => by subst e; exact hc rfl)]
    exact RQ.fin rfl rfl rfl
  have hlen : a.length = b.length := by omega
  clear hc
  refine yak (α := Int) (fun i => ⟨[(0, .imm (.sl (a.map u16))), (1, .imm (.sl (b.map u16))), (12, iav (a.map u16).length), (13, iav i)], []⟩) (fun i => 0 ≤ i ∧ i ≤ a.length ∧ a.take i.toNat = b.take i.toNat) (fun i => (a.length - i).toNat) 0 (yae 0 rfl (by repeat' (first | exact trivial | refine ⟨rfl, ?_⟩)) rfl rfl (Nat.zero_le _)) ⟨by omega, by omega, rfl⟩ ?_
  intro i ⟨h0, h1, h2⟩
  (repeat' (first | ((with_reducible show AL _ _ _ _ _); first | (refine AL.step tabs rfl ?_; try dsimp only [len, List.nil_append, List.cons_append]) | refine ym ?_ | (refine AL.op rfl (yi rfl rfl rfl rfl rfl (by omega) (by omega)) ?_) | (refine AL.op rfl (ye tabs rfl rfl rfl rfl rfl rfl rfl (fun _ => rfl) (by decide) (by omega) (by omega)) ?_)) | ((with_reducible show DQ _ _ _ _ _ _); first | refine DQ.stepc (LS.val tabs rfl rfl rfl) rfl rfl rfl rfl rfl ?_ | refine DQ.stepc (yab rfl rfl) rfl rfl rfl rfl rfl ?_ | refine DQ.nilM (by kernel_rfl) ?_ | refine DQ.stepc (yaf rfl rfl rfl rfl rfl rfl (by omega) (by omega)) rfl rfl rfl rfl rfl ?_ | refine DQ.stepc (yaa tabs rfl rfl rfl rfl rfl rfl rfl rfl (fun _ => rfl) (by decide) (by omega) (by omega)) rfl rfl rfl rfl rfl ?_) | refine yn ?_ | refine yc ?_ | refine ya ?_ | refine yf ?_ | refine AW.block ?_ | refine yt ?_ | refine yh rfl ?_ | refine yg rfl ?_ | (refine yk rfl (fun hc => ?_) (fun hc => ?_) <;> (try simp only [hsx] at hc) <;> (try first | omega | contradiction | (simp [qa] at hc; done))) | refine yo ?_ | refine yy ?_ | refine yd ?_ | refine yp ?_ | refine yw ?_ | refine yr ?_ | refine InB.off rfl ?_ | refine yz ?_ | refine yu ?_ | refine yx mixed (by kernel_rfl) ?_))
  · rw [qw (p := a = b) (qc6 hc)]
    exact RQ.fin rfl rfl rfl
  · refine yag (i + 1) (yae 0 rfl (by repeat' (first | exact trivial | refine ⟨rfl, ?_⟩)) rfl rfl (Nat.zero_le _)) ⟨by omega, by omega, ?_⟩ (by omega)
    rw [qi h0 (by assumption), qi h0 (by omega), h2, hc]
  · rw [qq hc, qq (by omega)] at h2
    rw [qaw (p := a = b) h2]; exact RQ.fin rfl rfl rfl
theorem qgp (a b : List Int) (hl : a.length ≤ 1000000000) : PureC Tryz.prog 133 [.imm (.sl (a.map i64)), .imm (.sl (b.map i64))] (bav (dec (a = b))) := by
  refine yq tabs Tryz.func133 26 [.tmp 4] rfl rfl rfl rfl rfl ?_; intro w0 X
  (repeat' (first | ((with_reducible show AL _ _ _ _ _); first | (refine AL.step tabs rfl ?_; try dsimp only [len, List.nil_append, List.cons_append]) | refine ym ?_ | (refine AL.op rfl (yi rfl rfl rfl rfl rfl (by omega) (by omega)) ?_) | (refine AL.op rfl (ye tabs rfl rfl rfl rfl rfl rfl rfl (fun _ => rfl) (by decide) (by omega) (by omega)) ?_)) | ((with_reducible show DQ _ _ _ _ _ _); first | refine DQ.stepc (LS.val tabs rfl rfl rfl) rfl rfl rfl rfl rfl ?_ | refine DQ.stepc (yab rfl rfl) rfl rfl rfl rfl rfl ?_ | refine DQ.nilM (by kernel_rfl) ?_ | refine DQ.stepc (yaf rfl rfl rfl rfl rfl rfl (by omega) (by omega)) rfl rfl rfl rfl rfl ?_ | refine DQ.stepc (yaa tabs rfl rfl rfl rfl rfl rfl rfl rfl (fun _ => rfl) (by decide) (by omega) (by omega)) rfl rfl rfl rfl rfl ?_) | fail | refine yn ?_ | refine yc ?_ | refine ya ?_ | refine yf ?_ | refine AW.block ?_ | refine yt ?_ | refine yh rfl ?_ | refine yg rfl ?_ | (refine yk rfl (fun hc => ?_) (fun hc => ?_) <;> (try simp only [hsx] at hc) <;> (try first | omega | contradiction | (simp [qa] at hc; done))) | refine yo ?_ | refine yy ?_ | refine yd ?_ | refine yp ?_ | refine yw ?_ | refine yr ?_ | refine InB.off rfl ?_ | refine yz ?_ | refine yu ?_ | refine yx mixed (by kernel_rfl) ?_))
  · rw [qw (p := a = b) (fun e => by subst e; exact hc rfl)]
    exact RQ.fin rfl rfl rfl
  have hlen : a.length = b.length := by omega
  clear hc
  refine yak (α := Int) (fun i => ⟨[(0, .imm (.sl (a.map i64))), (1, .imm (.sl (b.map i64))), (12, iav (a.map i64).length), (13, iav i)], []⟩) (fun i => 0 ≤ i ∧ i ≤ a.length ∧ a.take i.toNat = b.take i.toNat) (fun i => (a.length - i).toNat) 0 (yae 0 rfl (by repeat' (first | exact trivial | refine ⟨rfl, ?_⟩)) rfl rfl (Nat.zero_le _)) ⟨by omega, by omega, rfl⟩ ?_
  intro i ⟨h0, h1, h2⟩
  (repeat' (first | ((with_reducible show AL _ _ _ _ _); first | (refine AL.step tabs rfl ?_; try dsimp only [len, List.nil_append, List.cons_append]) | refine ym ?_ | (refine AL.op rfl (yi rfl rfl rfl rfl rfl (by omega) (by omega)) ?_) | (refine AL.op rfl (ye tabs rfl rfl rfl rfl rfl rfl rfl (fun _ => rfl) (by decide) (by omega) (by omega)) ?_)) | ((with_reducible show DQ _ _ _ _ _ _); first | refine DQ.stepc (LS.val tabs rfl rfl rfl) rfl rfl rfl rfl rfl ?_ | refine DQ.stepc (yab rfl rfl) rfl rfl rfl rfl rfl ?_ | refine DQ.nilM (by kernel_rfl) ?_ | refine DQ.stepc (yaf rfl rfl rfl rfl rfl rfl (by omega) (by omega)) rfl rfl rfl rfl rfl ?_ | refine DQ.stepc (yaa tabs rfl rfl rfl rfl rfl rfl rfl rfl (fun _ => rfl) (by decide) (by omega) (by omega)) rfl rfl rfl rfl rfl ?_) | refine yn ?_ | refine yc ?_ | refine ya ?_ | refine yf ?_ | refine AW.block ?_ | refine yt ?_ | refine yh rfl ?_ | refine yg rfl ?_ | (refine yk rfl (fun hc => ?_) (fun hc => ?_) <;> (try simp only [hsx] at hc) <;> (try first | omega | contradiction | (simp [qa] at hc; done))) | refine yo ?_ | refine yy ?_ | refine yd ?_ | refine yp ?_ | refine yw ?_ | refine yr ?_ | refine InB.off rfl ?_ | refine yz ?_ | refine yu ?_ | refine yx mixed (by kernel_rfl) ?_))
  · rw [qw (p := a = b) (qc6 hc)]
    exact RQ.fin rfl rfl rfl
  · refine yag (i + 1) (yae 0 rfl (by repeat' (first | exact trivial | refine ⟨rfl, ?_⟩)) rfl rfl (Nat.zero_le _)) ⟨by omega, by omega, ?_⟩ (by omega)
    rw [qi h0 (by assumption), qi h0 (by omega), h2, hc]
  · rw [qq hc, qq (by omega)] at h2
    rw [qaw (p := a = b) h2]; exact RQ.fin rfl rfl rfl
theorem qk8 (a b : List Attr) (hl : a.length ≤ 1000000000) : PureC Tryz.prog 159 [.imm (.sl (a.map Attr.iv)), .imm (.sl (b.map Attr.iv))] (bav (dec (a = b))) := by
  refine yq tabs Tryz.func159 26 [.tmp 4] rfl rfl rfl rfl rfl ?_; intro w0 X
  (repeat' (first | ((with_reducible show AL _ _ _ _ _); first | (refine AL.step tabs rfl ?_; try dsimp only [len, List.nil_append, List.cons_append]) | refine ym ?_ | (refine AL.op rfl (yi rfl rfl rfl rfl rfl (by omega) (by omega)) ?_) | (refine AL.op rfl (ye tabs rfl rfl rfl rfl rfl rfl rfl (fun _ => rfl) (by decide) (by omega) (by omega)) ?_) | (refine AL.op rfl (ya5 rfl rfl rfl rfl eqt104 rfl rfl) ?_)) | ((with_reducible show DQ _ _ _ _ _ _); first | refine DQ.stepc (LS.val tabs rfl rfl rfl) rfl rfl rfl rfl rfl ?_ | refine DQ.stepc (yab rfl rfl) rfl rfl rfl rfl rfl ?_ | refine DQ.nilM (by kernel_rfl) ?_ | refine DQ.stepc (yaf rfl rfl rfl rfl rfl rfl (by omega) (by omega)) rfl rfl rfl rfl rfl ?_ | refine DQ.stepc (yaa tabs rfl rfl rfl rfl rfl rfl rfl rfl (fun _ => rfl) (by decide) (by omega) (by omega)) rfl rfl rfl rfl rfl ?_ | refine DQ.stepc (yb3 rfl rfl rfl rfl rfl eqt104 rfl rfl) rfl rfl rfl rfl rfl ?_) | fail | refine yn ?_ | refine yc ?_ | refine ya ?_ | refine yf ?_ | refine AW.block ?_ | refine yt ?_ | refine yh rfl ?_ | refine yg rfl ?_ | (refine yk rfl (fun hc => ?_) (fun hc => ?_) <;> (try simp only [hsx] at hc) <;> (try first | omega | contradiction | (simp [qa] at hc; done))) | refine yo ?_ | refine yy ?_ | refine yd ?_ | refine yp ?_ | refine yw ?_ | refine yr ?_ | refine InB.off rfl ?_ | refine yz ?_ | refine yu ?_ | refine yx mixed (by kernel_rfl) ?_))
  · rw [qw (p := a = b) (fun e => by subst e; exact hc rfl)]
    exact RQ.fin rfl rfl rfl
  have hlen : a.length = b.length := by omega
  clear hc
  refine yak (α := Int) (fun i => ⟨[(0, .imm (.sl (a.map Attr.iv))), (1, .imm (.sl (b.map Attr.iv))), (12, iav (a.map Attr.iv).length), (13, iav i)], []⟩) (fun i => 0 ≤ i ∧ i ≤ a.length ∧ a.take i.toNat = b.take i.toNat) (fun i => (a.length - i).toNat) 0 (yae 0 rfl (by repeat' (first | exact trivial | refine ⟨rfl, ?_⟩)) rfl rfl (Nat.zero_le _)) ⟨by omega, by omega, rfl⟩ ?_
  intro i ⟨h0, h1, h2⟩
  (repeat' (first | ((with_reducible show AL _ _ _ _ _); first | (refine AL.step tabs rfl ?_; try dsimp only [len, List.nil_append, List.cons_append]) | refine ym ?_ | (refine AL.op rfl (yi rfl rfl rfl rfl rfl (by omega) (by omega)) ?_) | (refine AL.op rfl (ye tabs rfl rfl rfl rfl rfl rfl rfl (fun _ => rfl) (by decide) (by omega) (by omega)) ?_) | (refine AL.op rfl (ya5 rfl rfl rfl rfl eqt104 rfl rfl) ?_)) | ((with_reducible show DQ _ _ _ _ _ _); first | refine DQ.stepc (LS.val tabs rfl rfl rfl) rfl rfl rfl rfl rfl ?_ | refine DQ.stepc (yab rfl rfl) rfl rfl rfl rfl rfl ?_ | refine DQ.nilM (by kernel_rfl) ?_ | refine DQ.stepc (yaf rfl rfl rfl rfl rfl rfl (by omega) (by omega)) rfl rfl rfl rfl rfl ?_ | refine DQ.stepc (yaa tabs rfl rfl rfl rfl rfl rfl rfl rfl (fun _ => rfl) (by decide) (by omega) (by omega)) rfl rfl rfl rfl rfl ?_ | refine DQ.stepc (yb3 rfl rfl rfl rfl rfl eqt104 rfl rfl) rfl rfl rfl rfl rfl ?_) | refine yn ?_ | refine yc ?_ | refine ya ?_ | refine yf ?_ | refine AW.block ?_ | refine yt ?_ | refine yh rfl ?_ | refine yg rfl ?_ | (refine yk rfl (fun hc => ?_) (fun hc => ?_) <;> (try simp only [hsx] at hc) <;> (try first | omega | contradiction | (simp [qa] at hc; done))) | refine yo ?_ | refine yy ?_ | refine yd ?_ | refine yp ?_ | refine yw ?_ | refine yr ?_ | refine InB.off rfl ?_ | refine yz ?_ | refine yu ?_ | refine yx mixed (by kernel_rfl) ?_))
  · rw [qw (p := a = b) (qc6 (i := i) (fun e => by rw [e] at hc; simp [qa] at hc))]
    exact RQ.fin rfl rfl rfl
  · have e : atI a i = atI b i := by
      simp only [Bool.and_eq_true, qb] at hc
      rw [qi5, qc5]; grind
    refine yag (i + 1) (yae 0 rfl (by repeat' (first | exact trivial | refine ⟨rfl, ?_⟩)) rfl rfl (Nat.zero_le _)) ⟨by omega, by omega, ?_⟩ (by omega)
    rw [qi h0 (by assumption), qi h0 (by omega), h2, e]
  · rw [qq hc, qq (by omega)] at h2
    rw [qaw (p := a = b) h2]; exact RQ.fin rfl rfl rfl
def restAv (n : Node) : AV := .agg [kav n.kind, sav n.name.sp, sav n.name.pf, sav n.name.lc, sav n.pub, sav n.sys, iav n.parent, iav n.doc, iav n.host, iav n.shadow, kav n.mode, bav n.manual, bav n.html]
theorem qmw (n : Node) : PureC Tryz.prog 160 [n.av] (restAv n) := by
  refine yq tabs Tryz.func160 26 [.cell 2 167] rfl rfl rfl rfl rfl ?_; intro w0 X
  (repeat' (first | ((with_reducible show AL _ _ _ _ _); first | (refine AL.step tabs rfl ?_; try dsimp only [len, List.nil_append, List.cons_append]) | refine ym ?_) | refine yn ?_ | refine yc ?_ | refine ya ?_ | refine yf ?_ | refine yo ?_ | refine yd ?_))
  exact RQ.fin rfl rfl rfl
theorem qh3 (a b : Node) (ha : FitN a) : PureC Tryz.prog 132 [a.av, b.av] (bav (dec (a = b))) := by
  refine yq tabs Tryz.func132 35 [.tmp 4] rfl rfl rfl rfl rfl ?_; intro w0 X
  (repeat' (first | ((with_reducible show AL _ _ _ _ _); first | (refine AL.step tabs rfl ?_; try dsimp only [len, List.nil_append, List.cons_append]) | refine AL.op rfl (yb rfl rfl rfl rfl (qi7 a.data b.data ha.data) rfl) ?_ | refine AL.op rfl (yb rfl rfl rfl rfl (qk8 a.attrs b.attrs ha.attrs) rfl) ?_ | refine AL.op rfl (yb rfl rfl rfl rfl (qgp a.kids b.kids ha.kids) rfl) ?_ | refine ym ?_ | (refine yj rfl rfl rfl (fun hc => ?_) (fun hc => ?_) <;> (fail_if_success (exact absurd hc (by decide))) <;> (try simp only [hsx] at hc) <;> (try first | omega | contradiction | (simp [qa] at hc; done))) | (refine AL.op rfl (ya5 rfl rfl rfl rfl eqt167 rfl rfl) ?_)) | ((with_reducible show DQ _ _ _ _ _ _); first | refine DQ.stepc (yai rfl rfl rfl rfl rfl (qmw a) rfl) rfl rfl rfl rfl rfl ?_ | refine DQ.stepc (yai rfl rfl rfl rfl rfl (qmw b) rfl) rfl rfl rfl rfl rfl ?_ | refine DQ.stepc (LS.val tabs rfl rfl rfl) rfl rfl rfl rfl rfl ?_ | refine DQ.stepc (yab rfl rfl) rfl rfl rfl rfl rfl ?_ | refine DQ.nilM (by kernel_rfl) ?_ | (refine DQ.gsplitE rfl rfl rfl (fun hc => ?_) (fun hc => ?_) <;> (fail_if_success (exact absurd hc (by decide))) <;> (try simp only [hsx] at hc) <;> (try first | omega | contradiction | (simp [qa] at hc; done))) | refine DQ.stepc (yb3 rfl rfl rfl rfl rfl eqt167 rfl rfl) rfl rfl rfl rfl rfl ?_) | refine yn ?_ | refine yc ?_ | refine ya ?_ | refine yf ?_ | refine yh rfl ?_ | refine yg rfl ?_ | (refine yk rfl (fun hc => ?_) (fun hc => ?_) <;> (try simp only [hsx] at hc) <;> (try first | omega | contradiction | (simp [qa] at hc; done))) | refine yo ?_ | refine yd ?_ | refine yx mixed (by kernel_rfl) ?_))
  all_goals (refine RQ.fin rfl rfl (congrArg bav ?_); rw [Bool.eq_iff_iff]; simp only [Bool.and_eq_true, qb, qgo, qc5, beq_iff_eq]; grind)
def numsAv (c : Change) : AV := .agg [iav c.kind, iav c.node, iav c.parent, iav c.index, iav c.other, iav c.doc, iav c.offset, iav c.count, iav c.prev]
theorem qmx (c : Change) (h0 : 0 ≤ c.kind) (h1 : c.kind < 256) : PureC Tryz.prog 134 [c.av] (numsAv c) := by
  rw [show numsAv c = .agg [iav (IntKind.i64.wrap c.kind), iav c.node, iav c.parent, iav c.index, iav c.other, iav c.doc, iav c.offset, iav c.count, iav c.prev] by rw [qmm (by omega) (by omega)]; rfl]
  refine yq tabs Tryz.func134 23 [.cell 2 141] rfl rfl rfl rfl rfl ?_; intro w0 X
  (repeat' (first | ((with_reducible show AL _ _ _ _ _); first | (refine AL.step tabs rfl ?_; try dsimp only [len, List.nil_append, List.cons_append]) | refine AL.op rfl (yb8 tabs rfl rfl rfl rfl rfl rfl) ?_ | refine AL.op rfl (ycp tabs rfl rfl rfl rfl Tryz.underlying141 rfl rfl) ?_ | refine ym ?_) | refine yn ?_ | refine yc ?_ | refine ya ?_ | refine yf ?_ | refine yo ?_ | refine yd ?_))
  exact RQ.fin rfl rfl rfl
theorem qft {P : Program} {f : FuncId} {args : List AV} {p : Prop} (h : PureC P f args (bav (dec p))) (hp : p) : PureC P f args (bav true) := by rw [qaw hp] at h; exact h
theorem qfu (a b : Change) (ha : a.data.length ≤ 1000000000) (hm : FitN a.made) (h3 : a.added.length ≤ 1000000000) (h4 : a.removed.length ≤ 1000000000) (ha0 : 0 ≤ a.kind) (ha1 : a.kind < 256) (hb0 : 0 ≤ b.kind) (hb1 : b.kind < 256) : PureC Tryz.prog 96 [a.av, b.av] (bav (dec (a = b))) := by
  refine yq tabs Tryz.func96 85 [.tmp 4] rfl rfl rfl rfl rfl ?_; intro w0 X
  (repeat' (first | ((with_reducible show AL _ _ _ _ _); first | (refine AL.step tabs rfl ?_; try dsimp only [len, List.nil_append, List.cons_append]) | refine AL.op rfl (yb rfl rfl rfl rfl (qi7 a.data b.data ha) rfl) ?_ | refine AL.op rfl (yb rfl rfl rfl rfl (qh3 a.made b.made hm) rfl) ?_ | refine AL.op rfl (yb rfl rfl rfl rfl (qgp a.added b.added h3) rfl) ?_ | refine AL.op rfl (yb rfl rfl rfl rfl (qgp a.removed b.removed h4) rfl) ?_ | refine ym ?_ | (refine yj rfl rfl rfl (fun hc => ?_) (fun hc => ?_) <;> (fail_if_success (exact absurd hc (by decide))) <;> (try simp only [hsx] at hc) <;> (try first | omega | contradiction | (simp [qa] at hc; done))) | (refine AL.op rfl (ya5 rfl rfl rfl rfl eqt39 rfl rfl) ?_)) | ((with_reducible show DQ _ _ _ _ _ _); first | refine DQ.stepc (yai rfl rfl rfl rfl rfl (qmx a ha0 ha1) rfl) rfl rfl rfl rfl rfl ?_ | refine DQ.stepc (yai rfl rfl rfl rfl rfl (qmx b hb0 hb1) rfl) rfl rfl rfl rfl rfl ?_ | refine DQ.stepc (yb3 rfl rfl rfl rfl rfl eqt141 rfl rfl) rfl rfl rfl rfl rfl ?_ | refine DQ.stepc (LS.val tabs rfl rfl rfl) rfl rfl rfl rfl rfl ?_ | refine DQ.stepc (yab rfl rfl) rfl rfl rfl rfl rfl ?_ | refine DQ.nilM (by kernel_rfl) ?_ | (refine DQ.gsplitE rfl rfl rfl (fun hc => ?_) (fun hc => ?_) <;> (fail_if_success (exact absurd hc (by decide))) <;> (try simp only [hsx] at hc) <;> (try first | omega | contradiction | (simp [qa] at hc; done))) | refine DQ.stepc (yb3 rfl rfl rfl rfl rfl eqt39 rfl rfl) rfl rfl rfl rfl rfl ?_) | refine yn ?_ | refine yc ?_ | refine ya ?_ | refine yf ?_ | refine yh rfl ?_ | refine yg rfl ?_ | (refine yk rfl (fun hc => ?_) (fun hc => ?_) <;> (try simp only [hsx] at hc) <;> (try first | omega | contradiction | (simp [qa] at hc; done))) | refine yo ?_ | refine yd ?_ | refine yx mixed (by kernel_rfl) ?_))
  all_goals
    refine RQ.fin rfl rfl (congrArg bav ?_)
    rw [Bool.eq_iff_iff]
    simp only [Bool.and_eq_true, qb, qi6, qc5, beq_iff_eq]
    try simp only [List.cons.injEq, and_true, Bool.and_eq_false_iff, Bool.and_eq_true, qb, qg] at *
    grind
theorem qan (a : Change) (ha : a.data.length ≤ 1000000000) (hm : FitN a.made) (h3 : a.added.length ≤ 1000000000) (h4 : a.removed.length ≤ 1000000000) (ha0 : 0 ≤ a.kind) (ha1 : a.kind < 256) : PureC Tryz.prog 96 [a.av, a.av] (bav true) := qft (qfu a a ha hm h3 h4 ha0 ha1 ha0 ha1) rfl
theorem qe5 (l : List Int) (hl : l.length ≤ 1000000000) : PureC Tryz.prog 106 [.imm (.sl (l.map u16))] (.imm (.sl (l.map u16))) := by
  refine yq tabs Tryz.func106 8 [.tmp 2] rfl rfl rfl rfl rfl ?_; intro w0 X
  (repeat' (first | ((with_reducible show AL _ _ _ _ _); first | (refine AL.step tabs rfl ?_; try dsimp only [len, List.nil_append, List.cons_append]) | refine ybo tabs rfl rfl rfl rfl rfl rfl rfl (fun b hb => ?_) | refine yad rfl (yal (ie := ti55) (b := ⟨55, 1, []⟩) tabs rfl rfl rfl rfl rfl rfl rfl rfl rfl rfl (SrcA.imm (rows := l.map u16) tabs rfl rfl rfl (by simp [u16, ti55])) (by simp [ti55, chunk]; omega) (by simp [chunk]; omega)) rfl ?_ | refine ym ?_) | refine yn ?_ | refine yc ?_ | refine ya ?_ | refine yf ?_ | refine yh rfl ?_ | refine yg rfl ?_ | (refine yk rfl (fun hc => ?_) (fun hc => ?_) <;> (try simp only [hsx] at hc) <;> (try first | omega | contradiction | (simp [qa] at hc; done))) | refine yo ?_ | refine yd ?_))
  · have e : l = [] := by simpa using hb hc
    subst e; exact RQ.fin rfl rfl rfl
  · exact yao rfl (Fz.os (b := ⟨55, 1, (l.map u16).map (·.map .imm)⟩) (rows := l.map u16) rfl (by simp) rfl)
theorem qcz (l : List Attr) (hl : l.length ≤ 1000000000) : PureC Tryz.prog 107 [.imm (.sl (l.map Attr.iv))] (.imm (.sl (l.map Attr.iv))) := by
  refine yq tabs Tryz.func107 8 [.tmp 2] rfl rfl rfl rfl rfl ?_; intro w0 X
  (repeat' (first | ((with_reducible show AL _ _ _ _ _); first | (refine AL.step tabs rfl ?_; try dsimp only [len, List.nil_append, List.cons_append]) | refine ybo tabs rfl rfl rfl rfl rfl rfl rfl (fun b hb => ?_) | refine yad rfl (yal (ie := ti104) (b := ⟨104, 4, []⟩) tabs rfl rfl rfl rfl rfl rfl rfl rfl rfl rfl (SrcA.imm (rows := l.map Attr.iv) tabs rfl rfl rfl (by simp [Attr.iv, ti104])) (by simp [ti104, chunk]; omega) (by simp [chunk]; omega)) rfl ?_ | refine ym ?_) | refine yn ?_ | refine yc ?_ | refine ya ?_ | refine yf ?_ | refine yh rfl ?_ | refine yg rfl ?_ | (refine yk rfl (fun hc => ?_) (fun hc => ?_) <;> (try simp only [hsx] at hc) <;> (try first | omega | contradiction | (simp [qa] at hc; done))) | refine yo ?_ | refine yd ?_))
  · have e : l = [] := by simpa using hb hc
    subst e; exact RQ.fin rfl rfl rfl
  · exact yao rfl (Fz.os (b := ⟨104, 4, (l.map Attr.iv).map (·.map .imm)⟩) (rows := l.map Attr.iv) rfl (by simp) rfl)
theorem qe6 (l : List Int) (hl : l.length ≤ 1000000000) : PureC Tryz.prog 108 [.imm (.sl (l.map i64))] (.imm (.sl (l.map i64))) := by
  refine yq tabs Tryz.func108 8 [.tmp 2] rfl rfl rfl rfl rfl ?_; intro w0 X
  (repeat' (first | ((with_reducible show AL _ _ _ _ _); first | (refine AL.step tabs rfl ?_; try dsimp only [len, List.nil_append, List.cons_append]) | refine ybo tabs rfl rfl rfl rfl rfl rfl rfl (fun b hb => ?_) | refine yad rfl (yal (ie := ti3) (b := ⟨3, 1, []⟩) tabs rfl rfl rfl rfl rfl rfl rfl rfl rfl rfl (SrcA.imm (rows := l.map i64) tabs rfl rfl rfl (by simp [i64, ti3])) (by simp [ti3, chunk]; omega) (by simp [chunk]; omega)) rfl ?_ | refine ym ?_) | refine yn ?_ | refine yc ?_ | refine ya ?_ | refine yf ?_ | refine yh rfl ?_ | refine yg rfl ?_ | (refine yk rfl (fun hc => ?_) (fun hc => ?_) <;> (try simp only [hsx] at hc) <;> (try first | omega | contradiction | (simp [qa] at hc; done))) | refine yo ?_ | refine yd ?_))
  · have e : l = [] := by simpa using hb hc
    subst e; exact RQ.fin rfl rfl rfl
  · exact yao rfl (Fz.os (b := ⟨3, 1, (l.map i64).map (·.map .imm)⟩) (rows := l.map i64) rfl (by simp) rfl)
theorem qi8 : PureC Tryz.prog 108 [.imm (.sl [])] .nocap := by
  refine yq tabs Tryz.func108 8 [.tmp 2] rfl rfl rfl rfl rfl ?_; intro w0 X
  (repeat' (first | ((with_reducible show AL _ _ _ _ _); first | refine yad rfl (ybu tabs rfl rfl rfl rfl rfl rfl) rfl ?_ | (refine AL.step tabs rfl ?_; try dsimp only [len, List.nil_append, List.cons_append]) | refine ybo tabs rfl rfl rfl rfl rfl rfl rfl (fun b hb => ?_) | refine yad rfl (ybi tabs rfl rfl rfl rfl rfl rfl (SrcA.imm (rows := []) tabs rfl rfl rfl (by simp))) rfl ?_ | refine ym ?_) | refine yn ?_ | refine yc ?_ | refine ya ?_ | refine yf ?_ | refine yh rfl ?_ | refine yg rfl ?_ | (refine yk rfl (fun hc => ?_) (fun hc => ?_) <;> (try simp only [hsx] at hc) <;> (try first | omega | contradiction | (simp [qa] at hc; done))) | refine yo ?_ | refine yd ?_))
  · exact yao rfl fun γ κ a W x hC hr => by cases hr; exact .nocap _
  · exact yao rfl (Fz.im rfl)
theorem qbf (n : Node) (hn : FitN n) : PureC Tryz.prog 94 [n.av] n.av := by
  refine yq tabs Tryz.func94 16 [.cell 2 44] rfl rfl rfl rfl rfl ?_; intro w0 X
  (repeat' (first | ((with_reducible show AL _ _ _ _ _); first | (refine AL.step tabs rfl ?_; try dsimp only [len, List.nil_append, List.cons_append]) | refine AL.op rfl (yb rfl rfl rfl rfl (qe5 n.data hn.data) rfl) ?_ | refine AL.op rfl (yb rfl rfl rfl rfl (qcz n.attrs hn.attrs) rfl) ?_ | refine AL.op rfl (yb rfl rfl rfl rfl (qe6 n.kids hn.kids) rfl) ?_ | refine ym ?_) | refine yn ?_ | refine yc ?_ | refine ya ?_ | refine yf ?_ | refine yo ?_ | refine yd ?_))
  exact RQ.fin rfl rfl rfl
def plainMk (c : Change) : Change := { c0 with kind := c.kind, node := c.node, made := c.made }
theorem qgq (c : Change) : PureC Tryz.prog 110 [c.av] (plainMk c).av := by
  refine yq tabs Tryz.func110 10 [.cell 2 58] rfl rfl rfl rfl rfl ?_; intro w0 X
  (repeat' (first | ((with_reducible show AL _ _ _ _ _); first | (refine AL.step tabs rfl ?_; try dsimp only [len, List.nil_append, List.cons_append]) | refine ym ?_) | refine yn ?_ | refine yc ?_ | refine ya ?_ | refine yf ?_ | refine yo ?_ | refine yd ?_))
  exact RQ.fin rfl rfl rfl
def plainLn (c : Change) : Change := { c0 with kind := c.kind, node := c.node, parent := c.parent, index := c.index }
theorem qcr (c : Change) : PureC Tryz.prog 112 [c.av] (plainLn c).av := by
  refine yq tabs Tryz.func112 12 [.cell 2 58] rfl rfl rfl rfl rfl ?_; intro w0 X
  (repeat' (first | ((with_reducible show AL _ _ _ _ _); first | (refine AL.step tabs rfl ?_; try dsimp only [len, List.nil_append, List.cons_append]) | refine ym ?_) | refine yn ?_ | refine yc ?_ | refine ya ?_ | refine yf ?_ | refine yo ?_ | refine yd ?_))
  exact RQ.fin rfl rfl rfl
theorem qi9 (n : Node) (hn : FitN n) : PureC Tryz.prog 99 [n.av] n.av := by
  refine yq tabs Tryz.func99 16 [.cell 2 44] rfl rfl rfl rfl rfl ?_; intro w0 X
  (repeat' (first | ((with_reducible show AL _ _ _ _ _); first | (refine AL.step tabs rfl ?_; try dsimp only [len, List.nil_append, List.cons_append]) | refine yad rfl (yap (ie := ti55) tabs rfl rfl rfl rfl rfl (by decide) rfl (SrcA.imm (rows := (n.data.map u16)) tabs rfl rfl rfl (by simp [i64, u16, Attr.iv, ti3, ti55, ti104])) (by have := hn.data; have := hn.attrs; have := hn.kids; simp [ti3, ti55, ti104]; omega) (by have := hn.data; have := hn.attrs; have := hn.kids; simp; omega)) rfl ?_ | refine yad rfl (yap (ie := ti104) tabs rfl rfl rfl rfl rfl (by decide) rfl (SrcA.imm (rows := n.attrs.map Attr.iv) tabs rfl rfl rfl (by simp [i64, u16, Attr.iv, ti3, ti55, ti104])) (by have := hn.data; have := hn.attrs; have := hn.kids; simp [ti3, ti55, ti104]; omega) (by have := hn.data; have := hn.attrs; have := hn.kids; simp; omega)) rfl ?_ | refine yad rfl (yap (ie := ti3) tabs rfl rfl rfl rfl rfl (by decide) rfl (SrcA.imm (rows := n.kids.map i64) tabs rfl rfl rfl (by simp [i64, u16, Attr.iv, ti3, ti55, ti104])) (by have := hn.data; have := hn.attrs; have := hn.kids; simp [ti3, ti55, ti104]; omega) (by have := hn.data; have := hn.attrs; have := hn.kids; simp; omega)) rfl ?_ | refine ym ?_) | refine yn ?_ | refine yc ?_ | refine ya ?_ | refine yf ?_ | refine yo ?_ | refine yd ?_))
  exact yao rfl (yca (.cons (Fz.im rfl) (.cons (Fz.im rfl) (.cons (Fz.im rfl) (.cons (Fz.im rfl) (.cons (Fz.im rfl) (.cons (Fz.im rfl) (.cons (Fz.os (b := ⟨55, 1, (n.data.map u16).map (·.map .imm)⟩) (rows := n.data.map u16) rfl rfl rfl) (.cons (Fz.os (b := ⟨104, 4, (n.attrs.map Attr.iv).map (·.map .imm)⟩) (rows := n.attrs.map Attr.iv) rfl rfl rfl) (.cons (Fz.im rfl) (.cons (Fz.os (b := ⟨3, 1, (n.kids.map i64).map (·.map .imm)⟩) (rows := n.kids.map i64) rfl rfl rfl) (.cons (Fz.im rfl) (.cons (Fz.im rfl) (.cons (Fz.im rfl) (.cons (Fz.im rfl) (.cons (Fz.im rfl) (.cons (Fz.im rfl) .nil)))))))))))))))))
structure FitC (c : Change) : Prop where
  data : c.data.length ≤ 1000000000
  made : FitN c.made
  added : c.added.length ≤ 1000000000
  removed : c.removed.length ≤ 1000000000
theorem qgr (c : Change) (hc : FitC c) : PureC Tryz.prog 87 [c.av] c.av := by
  refine yq tabs Tryz.func87 20 [.cell 2 58] rfl rfl rfl rfl rfl ?_; intro w0 X
  (repeat' (first | ((with_reducible show AL _ _ _ _ _); first | (refine AL.step tabs rfl ?_; try dsimp only [len, List.nil_append, List.cons_append]) | refine yad rfl (yap (ie := ti55) tabs rfl rfl rfl rfl rfl (by decide) rfl (SrcA.imm (rows := c.data.map u16) tabs rfl rfl rfl (by simp [i64, u16, ti3, ti55])) (by have := hc.data; have := hc.added; have := hc.removed; simp [ti3, ti55]; omega) (by have := hc.data; have := hc.added; have := hc.removed; simp; omega)) rfl ?_ | refine yad rfl (yap (ie := ti3) tabs rfl rfl rfl rfl rfl (by decide) rfl (SrcA.imm (rows := c.added.map i64) tabs rfl rfl rfl (by simp [i64, u16, ti3, ti55])) (by have := hc.data; have := hc.added; have := hc.removed; simp [ti3, ti55]; omega) (by have := hc.data; have := hc.added; have := hc.removed; simp; omega)) rfl ?_ | refine yad rfl (yap (ie := ti3) tabs rfl rfl rfl rfl rfl (by decide) rfl (SrcA.imm (rows := c.removed.map i64) tabs rfl rfl rfl (by simp [i64, u16, ti3, ti55])) (by have := hc.data; have := hc.added; have := hc.removed; simp [ti3, ti55]; omega) (by have := hc.data; have := hc.added; have := hc.removed; simp; omega)) rfl ?_ | refine AL.op rfl (yb rfl rfl rfl rfl (qi9 c.made hc.made) rfl) ?_ | refine ym ?_) | refine yn ?_ | refine yc ?_ | refine ya ?_ | refine yf ?_ | refine yo ?_ | refine yd ?_))
  exact yao rfl (yca (.cons (Fz.im rfl) (.cons (Fz.im rfl) (.cons (Fz.im rfl) (.cons (Fz.im rfl) (.cons (Fz.im rfl) (.cons (Fz.im rfl) (.cons (Fz.im rfl) (.cons (Fz.im rfl) (.cons (Fz.os (b := ⟨55, 1, (c.data.map u16).map (·.map .imm)⟩) (rows := c.data.map u16) rfl rfl rfl) (.cons (Fz.im rfl) (.cons (Fz.im rfl) (.cons (Fz.im rfl) (.cons (Fz.im rfl) (.cons (Fz.im rfl) (.cons (Fz.im rfl) (.cons (Fz.im rfl) (.cons (Fz.im rfl) (.cons (Fz.im rfl) (.cons (Fz.im rfl) (.cons (Fz.im rfl) (.cons (Fz.im rfl) (.cons (Fz.im rfl) (.cons (Fz.im rfl) (.cons (Fz.im rfl) (.cons (Fz.im rfl) (.cons (Fz.im rfl) (.cons (Fz.im rfl) (.cons (Fz.im rfl) (.cons (Fz.im rfl) (.cons (Fz.im rfl) (.cons (Fz.im rfl) (.cons (Fz.im rfl) (.cons (Fz.os (b := ⟨3, 1, (c.added.map i64).map (·.map .imm)⟩) (rows := c.added.map i64) rfl rfl rfl) (.cons (Fz.os (b := ⟨3, 1, (c.removed.map i64).map (·.map .imm)⟩) (rows := c.removed.map i64) rfl rfl rfl) (.cons (Fz.im rfl) (.cons (Fz.im rfl) .nil)))))))))))))))))))))))))))))))))))))
end Go.Proofs.YtmhejcnaanocpaaGreat.A
