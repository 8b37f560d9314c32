/- Contracts: the reference of layer 3: kids, ring. -/
import Derived.Test.YtmhejcnaanocpaaGreatXAskGrpAZ
import Derived.Test.YtmhejcnaanocpaaGreatXAskGrpAM
import Derived.Test.YtmhejcnaanocpaaGreatXAskGrpAN
import Derived.Test.YtmhejcnaanocpaaGreatXAskGrpAV
import Derived.Test.YtmhejcnaanocpaaGreatXAskGrpAT
namespace Go.Proofs.YtmhejcnaanocpaaGreat.A
set_option linter.unusedVariables false
set_option linter.unusedSimpArgs false
set_option maxRecDepth 100000
set_option maxHeartbeats 4000000
theorem ql5 (p : Prop) [Decidable p] : dec p = decide p := qa p
theorem qn7 (f : List Node) (k : Int) (l : List Int) (hl : f.length ≤ 1000000000) (hk : l.length ≤ 1000000000) : PureC Tryz.prog 167 [fav f, kav k, .imm (.sl (l.map i64))] (bav (famGo (fun k => (nodeAt f k).kind) (dec (k = 9)) l 0 0)) := by
  refine yq tabs Tryz.func167 53 [.tmp 6] rfl rfl rfl rfl rfl ?_; intro w0 X
  (repeat' (first | ((with_reducible show AL _ _ _ _ _); first | (refine AL.step tabs rfl ?_; try dsimp only [len, List.nil_append, List.cons_append]) | refine ym ?_ | (refine yj rfl rfl rfl (fun hc => ?_) (fun hc => ?_) <;> (fail_if_success (exact absurd hc (by decide))) <;> (try simp only [hsx] at hc) <;> (try first | omega | contradiction | (simp [qa] at hc; done))) | (refine AL.op rfl (yi rfl rfl rfl rfl rfl (by omega) (by omega)) ?_) | (refine AL.op rfl (ye tabs rfl rfl rfl rfl rfl rfl rfl (fun _ => rfl) (by decide) (by omega) (by omega)) ?_)) | fail | refine yn ?_ | refine yc ?_ | refine ya ?_ | refine yf ?_ | refine AW.block ?_ | refine yt ?_ | refine yh rfl ?_ | refine yg rfl ?_ | (refine yk rfl (fun hc => ?_) (fun hc => ?_) <;> (try simp only [hsx] at hc) <;> (try first | omega | contradiction | (simp [qa] at hc; done))) | refine yo ?_ | refine yy ?_ | refine yd ?_ | refine yp ?_ | refine yw ?_ | refine yr ?_ | refine InB.off rfl ?_ | refine yz ?_ | refine yu ?_))
  refine yak (α := Int × Int × Int) (fun x => ⟨[(1, kav k), (3, .ptr 0 1 0 0), (7, iav x.2.1), (8, iav x.2.2), (11, .imm (.sl (l.map i64))), (12, iav (l.map i64).length), (13, iav x.1)], [⟨24, 1, [[.imm (.sl (f.map Node.iv))]]⟩]⟩) (fun x => 0 ≤ x.1 ∧ x.1 ≤ l.length ∧ 0 ≤ x.2.1 ∧ x.2.1 ≤ x.1 ∧ 0 ≤ x.2.2 ∧ x.2.2 ≤ x.1 ∧ famGo (fun k => (nodeAt f k).kind) (dec (k = 9)) (l.drop x.1.toNat) x.2.1 x.2.2 = famGo (fun k => (nodeAt f k).kind) (dec (k = 9)) l 0 0) (fun x => (l.length - x.1).toNat) (0, 0, 0) (yae 1 rfl (by repeat' (first | exact trivial | refine ⟨rfl, ?_⟩)) rfl rfl (Nat.zero_le _)) ⟨by simp, by simp, by simp, by simp, by simp, by simp, rfl⟩ ?_
  rintro ⟨i, e, d⟩ ⟨h0, h1, h3, h4, h5, h6, h2⟩
  simp only at h0 h1 h2 h3 h4 h5 h6
  (repeat' (first | ((with_reducible show AL _ _ _ _ _); first | (refine AL.step tabs rfl ?_; try dsimp only [len, List.nil_append, List.cons_append]) | refine AL.op rfl (yb rfl rfl rfl rfl (qkg f _ hl) rfl) ?_ | refine ym ?_ | (refine yj rfl rfl rfl (fun hc => ?_) (fun hc => ?_) <;> (fail_if_success (exact absurd hc (by decide))) <;> (try simp only [hsx] at hc) <;> (try first | omega | contradiction | (simp [qa] at hc; done))) | (refine AL.op rfl (yi rfl rfl rfl rfl rfl (by omega) (by omega)) ?_) | (refine AL.op rfl (ye tabs rfl rfl rfl rfl rfl rfl rfl (fun _ => rfl) (by decide) (by omega) (by omega)) ?_)) | refine yn ?_ | refine yc ?_ | refine ya ?_ | refine yf ?_ | refine AW.block ?_ | refine yt ?_ | refine yh rfl ?_ | refine yg rfl ?_ | (refine yk rfl (fun hc => ?_) (fun hc => ?_) <;> (try simp only [hsx] at hc) <;> (try first | omega | contradiction | (simp [qa] at hc; done))) | refine yo ?_ | refine yy ?_ | refine yd ?_ | refine yp ?_ | refine yw ?_ | refine yr ?_ | refine InB.off rfl ?_ | refine yz ?_ | refine yu ?_))
  all_goals first
    | (refine RQ.fin rfl rfl (congrArg bav ?_); rw [← h2]; clear h2; (first | rw [qd h0 (by assumption)] | rw [qat (by assumption)]); simp [famGo, qda, qdq, qa, *] <;> omega)
    | (refine RQ.fin rfl rfl (congrArg bav ?_); rw [← h2]; clear h2; (first | rw [qd h0 (by assumption)] | rw [qat (by assumption)]); simp [famGo, qda, qdq, qa, *]; done)
    | (refine yag (i + 1, e + 1, d) (yae 1 rfl (by repeat' (first | exact trivial | refine ⟨rfl, ?_⟩)) rfl rfl (Nat.zero_le _)) ⟨?_, ?_, ?_, ?_, ?_, ?_, ?_⟩ ?_ <;> simp only <;> first | omega | (rw [← h2]; clear h2; rw [qd h0 (by assumption)]; simp [famGo, qda, qdq, qa, *]; done))
    | (refine yag (i + 1, e, d + 1) (yae 1 rfl (by repeat' (first | exact trivial | refine ⟨rfl, ?_⟩)) rfl rfl (Nat.zero_le _)) ⟨?_, ?_, ?_, ?_, ?_, ?_, ?_⟩ ?_ <;> simp only <;> first | omega | (rw [← h2]; clear h2; rw [qd h0 (by assumption)]; simp [famGo, qda, qdq, qa, *]; done))
    | (refine yag (i + 1, e, d) (yae 1 rfl (by repeat' (first | exact trivial | refine ⟨rfl, ?_⟩)) rfl rfl (Nat.zero_le _)) ⟨?_, ?_, ?_, ?_, ?_, ?_, ?_⟩ ?_ <;> simp only <;> first | omega | (rw [← h2]; clear h2; rw [qd h0 (by assumption)]; simp [famGo, qda, qdq, qa, *]; done))
    | (refine RQ.fin rfl rfl (congrArg bav ?_); rw [← h2]; clear h2; rw [qat (by assumption)]; rw [Bool.eq_iff_iff]; simp [famGo, ql5, *] <;> omega)
theorem qhw (f : List Node) : ∀ (k : Nat) (x : Int), itN f (k + 1) x = upN f (itN f k x)
  | 0, _ => rfl
  | k + 1, x => qhw f k (upN f x)
theorem pigeon : ∀ {n : Nat} (g : Nat → Int), (∀ j, j ≤ n → 1 ≤ g j ∧ g j ≤ n) → ∃ i j, i < j ∧ j ≤ n ∧ g i = g j := by
  intro n g h
  by_cases hd : ∃ i j, i < j ∧ j ≤ n ∧ g i = g j
  · exact hd
  · exfalso
    have hn : ((List.range (n + 1)).map g).Nodup := by
      rw [List.nodup_iff_pairwise_ne, List.pairwise_map]
      refine List.Pairwise.imp_of_mem ?_ (List.pairwise_lt_range)
      intro i j _ hj hij e
      rw [List.mem_range] at hj
      exact hd ⟨i, j, hij, by omega, e⟩
    have hm : ∀ (l m : List Int), l.Nodup → (∀ x ∈ l, x ∈ m) → l.length ≤ m.length := by
      intro l
      induction l with
      | nil => exact fun m _ _ => Nat.zero_le _
      | cons x r ih =>
        intro m hn hs
        have hx := hs x (by simp)
        rw [List.nodup_cons] at hn
        have := ih (m.erase x) hn.2 fun y hy => (List.mem_erase_of_ne (fun e : y = x => hn.1 (by rw [← e]; exact hy))).2 (hs y (by simp [hy]))
        have hl := List.length_erase_of_mem hx
        have : 0 < m.length := List.length_pos_of_mem hx
        simp only [List.length_cons]
        omega
    have := hm _ ((List.range n).map fun j : Nat => (j : Int) + 1) hn fun x hx => by
      obtain ⟨j, hj, rfl⟩ := List.mem_map.1 hx
      rw [List.mem_range] at hj
      have := h j (by omega)
      exact List.mem_map.2 ⟨(g j - 1).toNat, List.mem_range.2 (by omega), by omega⟩
    simp at this
    omega
theorem ql6 {f : List Node} {h : Int} (hin : ∀ j : Nat, j ≤ f.length → inR f (itN f j h)) : ¬ Good f h := by
  obtain ⟨i, j, hij, hj, e⟩ := pigeon (fun j => itN f j h) hin
  have hr : Reach f (itN f i h) (itN f i h) := by
    refine ⟨j - i, by omega, ?_, fun q hq => ?_⟩
    · rw [← qai, show i + (j - i) = j by omega]
      exact e.symm
    · rw [← qai]
      exact hin _ (by omega)
  have hb := qbe hr
  intro hg
  apply hb
  by_cases h0 : i = 0
  · subst h0; exact hg
  · exact (qen ⟨i, by omega, rfl, fun q hq => hin q (by omega)⟩).1 hg
theorem qn8 (f : List Node) (h : Int) (hl : f.length ≤ 1000000000) : PureC Tryz.prog 137 [fav f, iav h] (bav (dec (¬ Good f h))) := by
  have hm : (List.map Node.iv f).length = f.length := List.length_map _
  refine yq tabs Tryz.func137 27 [.tmp 4] rfl rfl rfl rfl rfl ?_; intro w0 X
  (repeat' (first | ((with_reducible show AL _ _ _ _ _); first | (refine AL.step tabs rfl ?_; try dsimp only [len, List.nil_append, List.cons_append]) | refine ym ?_ | (refine AL.op rfl (yi rfl rfl rfl rfl rfl (by omega) (by omega)) ?_)) | fail | refine yn ?_ | refine yc ?_ | refine ya ?_ | refine yf ?_ | refine AW.block ?_ | refine yt ?_ | refine yh rfl ?_ | refine yg rfl ?_ | (refine yk rfl (fun hc => ?_) (fun hc => ?_) <;> (try simp only [hsx] at hc) <;> (try first | omega | contradiction | (simp [qa] at hc; done))) | refine yo ?_ | refine yy ?_ | refine yd ?_ | refine yp ?_ | refine yw ?_ | refine yr ?_ | refine InB.off rfl ?_ | refine yz ?_ | refine yu ?_))
  refine yak (α := Int) (fun i => ⟨[(2, .ptr 0 1 0 0), (5, iav (itN f i.toNat h)), (6, iav i)], [⟨24, 1, [[.imm (.sl (f.map Node.iv))]]⟩]⟩) (fun i => 0 ≤ i ∧ i ≤ f.length + 1 ∧ ∀ j : Nat, (j : Int) < i → inR f (itN f j h)) (fun i => (f.length + 1 - i).toNat) 0 (yae 1 rfl (by repeat' (first | exact trivial | refine ⟨rfl, ?_⟩)) rfl rfl (Nat.zero_le _)) ⟨by omega, by omega, fun j hj => by omega⟩ ?_
  intro i ⟨h0, h1, h2⟩
  (repeat' (first | ((with_reducible show AL _ _ _ _ _); first | (refine AL.step tabs rfl ?_; try dsimp only [len, List.nil_append, List.cons_append]) | refine AL.op rfl (yb rfl rfl rfl rfl (qaj f (itN f i.toNat h) hl) rfl) ?_ | refine AL.op rfl (yb rfl rfl rfl rfl (ql2 (nodeAt f (itN f i.toNat h))) rfl) ?_ | refine ym ?_ | (refine AL.op rfl (yi rfl rfl rfl rfl rfl (by omega) (by omega)) ?_)) | refine yn ?_ | refine yc ?_ | refine ya ?_ | refine yf ?_ | refine AW.block ?_ | refine yt ?_ | refine yh rfl ?_ | refine yg rfl ?_ | (refine yk rfl (fun hc => ?_) (fun hc => ?_) <;> (try simp only [hsx] at hc) <;> (try first | omega | contradiction | (simp [qa] at hc; done))) | refine yo ?_ | refine yy ?_ | refine yd ?_ | refine yp ?_ | refine yw ?_ | refine yr ?_ | refine InB.off rfl ?_ | refine yz ?_ | refine yu ?_))
  · have hout : ¬ inR f (itN f i.toNat h) := by simpa [inB, inR] using hc
    rw [qw (p := ¬ Good f h) (fun hg => hg ⟨_, hout⟩)]
    exact RQ.fin rfl rfl rfl
  · have hin : inR f (itN f i.toNat h) := by simpa [inB, inR] using hc
    have e : itN f (i + 1).toNat h = aboveOf (nodeAt f (itN f i.toNat h)) := by
      rw [show (i + 1).toNat = i.toNat + 1 by omega, qhw]
      unfold upN nodeAt
      rw [if_pos (show 1 ≤ itN f i.toNat h ∧ itN f i.toNat h ≤ (f.length : Int) from hin)]
    refine yag (i + 1) (yae 1 rfl ⟨rfl, by rw [e]; rfl, rfl, trivial⟩ rfl rfl (Nat.zero_le _)) ⟨by omega, by omega, fun j hj => ?_⟩ (by omega)
    by_cases h3 : (j : Int) < i
    · exact h2 j h3
    · rw [show j = i.toNat by omega]; exact hin
  · rw [qaw (ql6 fun j hj => h2 j (by omega))]
    exact RQ.fin rfl rfl rfl
def okKid (f : List Node) (h : Int) (n : Node) (k : Int) : Prop := inB f k = true ∧ (nodeAt f k).parent = h ∧ (cntB n.kids k : Int) = 1 ∧ (nodeAt f k).doc = n.doc
def rLinksP (f : List Node) (h : Int) (n : Node) : Prop := (∀ k ∈ n.kids, okKid f h n k) ∧ l1 f h n ∧ l2 f h n ∧ l3 f h n ∧ l4 f h n ∧ famB f n = true
theorem ql7 (f : List Node) (h : Int) (hl : f.length ≤ 1000000000) (hk : ∀ h, (nodeAt f h).kids.length ≤ 1000000000) (hk' : (atI f (h - 1)).kids.length ≤ 1000000000) (h1 : 1 ≤ h) (h2 : h ≤ f.length) : PureC Tryz.prog 136 [fav f, iav h] (bav (dec (rLinksP f h (atI f (h - 1))))) := by
  obtain ⟨n, hn⟩ : ∃ n, n = atI f (h - 1) := ⟨_, rfl⟩
  have hfam : PureC Tryz.prog 167 [fav f, kav n.kind, .imm (.sl (n.kids.map i64))] (bav (famB f n)) := qn7 f n.kind n.kids hl (by rw [hn]; exact hk')
  rw [← hn] at hk' ⊢
  refine yq tabs Tryz.func136 152 [.tmp 4] rfl rfl rfl rfl rfl ?_; intro w0 X
  (repeat' (first | ((with_reducible show AL _ _ _ _ _); first | (refine AL.step tabs rfl ?_; try dsimp only [len, List.nil_append, List.cons_append]) | refine ym ?_ | (refine yj rfl rfl rfl (fun hc => ?_) (fun hc => ?_) <;> (fail_if_success (exact absurd hc (by decide))) <;> (try simp only [hsx] at hc) <;> (try first | omega | contradiction | (simp [qa] at hc; done))) | (refine AL.op rfl (yi rfl rfl rfl rfl rfl (by omega) (by omega)) ?_) | (refine AL.op rfl (ye tabs rfl rfl rfl rfl rfl rfl rfl (fun _ => rfl) (by decide) (by omega) (by omega)) ?_)) | fail | refine yn ?_ | refine yc ?_ | refine ya ?_ | refine yf ?_ | refine AW.block ?_ | refine yt ?_ | refine yh rfl ?_ | refine yg rfl ?_ | (refine yk rfl (fun hc => ?_) (fun hc => ?_) <;> (try simp only [hsx] at hc) <;> (try first | omega | contradiction | (simp [qa] at hc; done))) | refine yo ?_ | refine yy ?_ | refine yd ?_ | refine yp ?_ | refine yw ?_ | refine yr ?_ | refine InB.off rfl ?_ | refine yz ?_ | refine yu ?_))
  rw [← hn]
  refine yak (α := Int) (fun i => ⟨[(1, iav h), (2, .ptr 0 1 0 0), (5, .ptr 1 1 0 0), (23, .imm (.sl (n.kids.map i64))), (24, iav (n.kids.map i64).length), (25, iav i)], [⟨24, 1, [[.imm (.sl (f.map Node.iv))]]⟩, ⟨44, 16, [n.iv.map .imm]⟩]⟩) (fun i => 0 ≤ i ∧ i ≤ n.kids.length ∧ ∀ k ∈ n.kids.take i.toNat, okKid f h n k) (fun i => (n.kids.length - i).toNat) 0 (yae 2 rfl (by repeat' (first | exact trivial | refine ⟨rfl, ?_⟩)) rfl rfl (Nat.zero_le _)) ⟨by omega, by omega, fun k hk => by simp at hk⟩ ?_
  intro i ⟨i0, i1, i2⟩
  by_cases hi : i < n.kids.length
  · (repeat' (first | ((with_reducible show AL _ _ _ _ _); first | (refine AL.step tabs rfl ?_; try dsimp only [len, List.nil_append, List.cons_append]) | refine AL.op rfl (yb rfl rfl rfl rfl (qaj f (atI n.kids i) hl) rfl) ?_ | refine AL.op rfl (yb rfl rfl rfl rfl (qhv n.kids (atI n.kids i) hk') rfl) ?_ | refine ym ?_ | (refine yj rfl rfl rfl (fun hc => ?_) (fun hc => ?_) <;> (fail_if_success (exact absurd hc (by decide))) <;> (try simp only [hsx] at hc) <;> (try first | omega | contradiction | (simp [qa] at hc; done))) | (refine AL.op rfl (yi rfl rfl rfl rfl rfl (by omega) (by omega)) ?_) | (refine AL.op rfl (ye tabs rfl rfl rfl rfl rfl rfl rfl (fun _ => rfl) (by decide) (by omega) (by omega)) ?_)) | refine yn ?_ | refine yc ?_ | refine ya ?_ | refine yf ?_ | refine AW.block ?_ | refine yt ?_ | refine yh rfl ?_ | refine yg rfl ?_ | (refine yk rfl (fun hc => ?_) (fun hc => ?_) <;> (try simp only [hsx] at hc) <;> (try first | omega | contradiction | (simp [qa] at hc; done))) | refine yo ?_ | refine yy ?_ | refine yd ?_ | refine yp ?_ | refine yw ?_ | refine yr ?_ | refine InB.off rfl ?_ | refine yz ?_ | refine yu ?_))
    all_goals first
      | (rw [qw (p := rLinksP f h n) (fun hr => by
          obtain ⟨a1, a2, a3, a4⟩ := hr.1 (atI n.kids i) (qa8 i0 hi)
          first | exact hc a2 | exact hc a3 | exact hc a4 | (rw [hc] at a1; cases a1))]
         exact RQ.fin rfl rfl rfl)
      | (refine yag (i + 1) (yae 2 rfl (by repeat' (first | exact trivial | refine ⟨rfl, ?_⟩)) rfl rfl (Nat.zero_le _)) ⟨by omega, by omega, fun k hk2 => ?_⟩ (by omega)
         rw [qi i0 hi] at hk2
         rcases List.mem_append.1 hk2 with h3 | h3
         · exact i2 k h3
         · rw [List.mem_singleton] at h3
           subst h3
           exact ⟨by assumption, by assumption, by assumption, by assumption⟩)
  · have hall : ∀ k ∈ n.kids, okKid f h n k := by rw [qq (by omega)] at i2; exact i2
    (repeat' (first | ((with_reducible show AL _ _ _ _ _); first | (refine AL.step tabs rfl ?_; try dsimp only [len, List.nil_append, List.cons_append]) | refine AL.op rfl (yb rfl rfl rfl rfl (qaj f n.parent hl) rfl) ?_ | refine AL.op rfl (yb rfl rfl rfl rfl (qaj f n.shadow hl) rfl) ?_ | refine AL.op rfl (yb rfl rfl rfl rfl (qaj f n.host hl) rfl) ?_ | refine AL.op rfl (yb rfl rfl rfl rfl (qkg f n.doc hl) rfl) ?_ | refine AL.op rfl (yb rfl rfl rfl rfl (qhv (nodeAt f n.parent).kids h (hk _)) rfl) ?_ | refine AL.op rfl (yb rfl rfl rfl rfl hfam rfl) ?_ | refine ym ?_ | (refine yj rfl rfl rfl (fun hc => ?_) (fun hc => ?_) <;> (fail_if_success (exact absurd hc (by decide))) <;> (try simp only [hsx] at hc) <;> (try first | omega | contradiction | (simp [qa] at hc; done))) | (refine AL.op rfl (yi rfl rfl rfl rfl rfl (by omega) (by omega)) ?_) | (refine AL.op rfl (ye tabs rfl rfl rfl rfl rfl rfl rfl (fun _ => rfl) (by decide) (by omega) (by omega)) ?_)) | refine ybp (t := 60) (l1 f h n) ⟨[(1, iav h), (2, .ptr 0 1 0 0), (5, .ptr 1 1 0 0)], [⟨24, 1, [[.imm (.sl (f.map Node.iv))]]⟩, ⟨44, 16, [n.iv.map .imm]⟩]⟩ ?_ (fun ml1 => ?_) | refine ybp (t := 92) (l2 f h n) ⟨[(1, iav h), (2, .ptr 0 1 0 0), (5, .ptr 1 1 0 0)], [⟨24, 1, [[.imm (.sl (f.map Node.iv))]]⟩, ⟨44, 16, [n.iv.map .imm]⟩]⟩ ?_ (fun ml2 => ?_) | refine ybp (t := 95) (l3 f h n) ⟨[(1, iav h), (2, .ptr 0 1 0 0), (5, .ptr 1 1 0 0)], [⟨24, 1, [[.imm (.sl (f.map Node.iv))]]⟩, ⟨44, 16, [n.iv.map .imm]⟩]⟩ ?_ (fun ml3 => ?_) | refine ybp (t := 118) (l4 f h n) ⟨[(1, iav h), (2, .ptr 0 1 0 0), (5, .ptr 1 1 0 0)], [⟨24, 1, [[.imm (.sl (f.map Node.iv))]]⟩, ⟨44, 16, [n.iv.map .imm]⟩]⟩ ?_ (fun ml4 => ?_) | refine yn ?_ | refine yc ?_ | refine ya ?_ | refine yf ?_ | refine AW.block ?_ | refine yt ?_ | refine yh rfl ?_ | refine yg rfl ?_ | (refine yk rfl (fun hc => ?_) (fun hc => ?_) <;> (try simp only [hsx] at hc) <;> (try first | omega | contradiction | (simp [qa] at hc; done))) | refine yo ?_ | refine yy ?_ | refine yd ?_ | refine yp ?_ | refine yw ?_ | refine yr ?_ | refine InB.off rfl ?_ | refine yz ?_ | refine yu ?_))
    all_goals try (refine yce ?_ (yae 2 rfl ⟨rfl, rfl, rfl, trivial⟩ rfl rfl (Nat.zero_le _)); simp only [l1, l2, l3, l4]; grind)
    all_goals try (refine RQ.fin rfl rfl (congrArg bav ?_); simp only [rLinksP, ml1, ml2, ml3, ml4, eq_true hall, true_and, qmr]; done)
    all_goals (refine RQ.fin rfl rfl (congrArg bav ?_); rw [Bool.eq_iff_iff]; simp only [rLinksP, l1, l2, l3, l4, qb, Bool.not_eq_true', qg]; grind)
theorem qga (n : Name) : rNamedP n ↔ namedB n = true := by
  unfold rNamedP namedB shortB
  simp only [Bool.and_eq_true, Bool.or_eq_true, Bool.not_eq_true', qg, qb, List.all_cons, List.all_nil, Bool.and_true, decide_eq_true_eq]
  grind
theorem qer (n : Name) : ∀ (l : List Attr) (i : Int), 0 ≤ i → (0 ≤ findGo n l i ↔ ∃ y ∈ l, keyP y n)
  | [], i, h => by
    rw [findGo]
    simp
  | y :: r, i, h => by
    rw [findGo]
    by_cases hk : keyP y n
    · rw [if_pos (by rw [qb]; exact hk)]
      exact ⟨fun _ => ⟨y, by simp, hk⟩, fun _ => h⟩
    · rw [if_neg (by rw [qb]; exact hk), qer n r (i + 1) (by omega)]
      constructor
      · rintro ⟨z, hz, h2⟩
        exact ⟨z, by simp [hz], h2⟩
      · rintro ⟨z, hz, h2⟩
        rcases List.mem_cons.1 hz with rfl | hz
        · exact absurd h2 hk
        · exact ⟨z, hz, h2⟩
theorem qhx (y : Attr) (n : Name) : keyP y n ↔ key y.name = key n := by
  unfold keyP key
  simp only [Prod.mk.injEq]
theorem qes : ∀ (l seen : List Attr), rAttrGo seen l = attrsGo (seen.map fun a => key a.name) l
  | [], _ => rfl
  | a :: r, seen => by
    rw [rAttrGo, attrsGo, qes r (seen ++ [a])]
    have h1 : dec (rNamedP a.name) = namedB a.name := by rw [Bool.eq_iff_iff, qb]; exact qga _
    rw [h1]
    have h2 : (0 ≤ findGo a.name seen 0) ↔ dec (key a.name ∈ seen.map fun a => key a.name) = true := by
      rw [qer a.name seen 0 (by omega), qb, List.mem_map]
      constructor
      · rintro ⟨y, hy, h⟩
        exact ⟨y, hy, (qhx _ _).1 h⟩
      · rintro ⟨y, hy, h⟩
        exact ⟨y, hy, (qhx _ _).2 h⟩
    have h4 : (4096 < a.value.size) = (4096 < (a.value.size : Int)) := by apply propext; omega
    by_cases h : 0 ≤ findGo a.name seen 0
    · rw [if_pos h, if_pos (h2.1 h)]
    · rw [if_neg h, if_neg (fun h3 => h (h2.2 h3))]
      simp
theorem qkh (l : List Attr) : rAttrB l = attrsB l := by
  unfold rAttrB attrsB
  rw [qes]
  rfl
theorem ql8 (n : Node) : rMadeP n ↔ madeP n := by
  have ha := qkh n.attrs
  have hn := qga n.name
  unfold rMadeP madeP p32 p66 p105 p126 p136 p148 m11 m27 m50 m77 m100 m200 knownP
  rw [ha]
  simp only [hasD, hasK, shortB, List.all_cons, List.all_nil, Bool.and_true, Bool.and_eq_true, decide_eq_true_eq]
  by_cases k1 : n.kind = 1
  · simp only [traitsOf, namingB, k1]
    simp [qb, shortB]
    grind
  by_cases k3 : n.kind = 3
  · simp only [traitsOf, namingB, k3]
    simp [qb, shortB]
    grind
  by_cases k4 : n.kind = 4
  · simp only [traitsOf, namingB, k4]
    simp [qb, shortB]
    grind
  by_cases k7 : n.kind = 7
  · simp only [traitsOf, namingB, k7]
    simp [qb, shortB]
    grind
  by_cases k8 : n.kind = 8
  · simp only [traitsOf, namingB, k8]
    simp [qb, shortB]
    grind
  by_cases k9 : n.kind = 9
  · simp only [traitsOf, namingB, k9]
    simp [qb, shortB]
    grind
  by_cases k10 : n.kind = 10
  · simp only [traitsOf, namingB, k10]
    simp [qb, shortB]
    grind
  by_cases k11 : n.kind = 11
  · simp only [traitsOf, namingB, k11]
    simp [qb, shortB]
    grind
  by_cases k12 : n.kind = 12
  · simp only [traitsOf, namingB, k12]
    simp [qb, shortB]
    grind
  simp [traitsOf, k1, k3, k4, k7, k8, k9, k10, k11, k12]
theorem qgb : ∀ (l : List Int), (∀ k ∈ l, (cntB l k : Int) = 1) ↔ l.Nodup
  | [] => by simp
  | x :: r => by
    have ih := qgb r
    have hx : ∀ k, cntB (x :: r) k = cntB r k + if x = k then 1 else 0 := fun k => by
      unfold cntB
      rw [List.countP_cons]
      simp
    have hz : ∀ k, cntB r k = 0 ↔ k ∉ r := fun k => by
      unfold cntB
      rw [List.countP_eq_zero]
      simp
      constructor
      · intro h hk; exact h k hk rfl
      · intro h a ha e; subst e; exact h ha
    rw [List.nodup_cons, ← ih]
    constructor
    · intro h
      have h0 := h x (by simp)
      rw [hx, if_pos rfl] at h0
      have hn := (hz x).1 (by omega)
      refine ⟨hn, fun k hk => ?_⟩
      have h1 := h k (by simp [hk])
      rw [hx, if_neg (fun e : x = k => hn (by rw [e]; exact hk))] at h1
      omega
    · rintro ⟨hn, h⟩ k hk
      rw [hx]
      rcases List.mem_cons.1 hk with rfl | hk
      · rw [if_pos rfl, (hz k).2 hn]; rfl
      · rw [if_neg (fun e : x = k => hn (by rw [e]; exact hk))]
        have := h k hk
        omega
theorem qet {f : List Node} {h doc : Int} : ∀ (l seen : List Int), kidsGo f h doc seen l = true ↔ (∀ k ∈ l, inB f k = true ∧ (nodeAt f k).parent = h ∧ (nodeAt f k).doc = doc ∧ k ∉ seen) ∧ l.Nodup
  | [], seen => by simp [kidsGo]
  | x :: r, seen => by
    rw [kidsGo, List.nodup_cons]
    by_cases h1 : inB f x = false
    · rw [if_pos h1]
      constructor
      · intro h; cases h
      · intro h2
        have := (h2.1 x (by simp)).1
        rw [h1] at this; cases this
    rw [if_neg h1]
    by_cases h2 : x ∈ seen
    · rw [if_pos (by rw [qb]; exact h2)]
      constructor
      · intro h; cases h
      · intro h3
        exact absurd h2 (h3.1 x (by simp)).2.2.2
    rw [if_neg (by rw [qb]; exact h2)]
    by_cases h3 : (nodeAt f x).parent = h
    · by_cases h4 : (nodeAt f x).doc = doc
      · rw [if_neg (by rw [qg]; exact fun h => h h3), if_neg (by rw [qg]; exact fun h => h h4), qet r (seen ++ [x])]
        constructor
        · rintro ⟨a, b⟩
          refine ⟨fun k hk => ?_, fun hx => (a x hx).2.2.2 (by simp), b⟩
          rcases List.mem_cons.1 hk with rfl | hk
          · exact ⟨by simpa using h1, h3, h4, h2⟩
          · obtain ⟨c1, c2, c3, c4⟩ := a k hk
            exact ⟨c1, c2, c3, fun h => c4 (by simp [h])⟩
        · rintro ⟨a, b, c⟩
          refine ⟨fun k hk => ?_, c⟩
          obtain ⟨c1, c2, c3, c4⟩ := a k (by simp [hk])
          refine ⟨c1, c2, c3, fun h => ?_⟩
          rcases List.mem_append.1 h with h | h
          · exact c4 h
          · rw [List.mem_singleton] at h
            subst h
            exact b hk
      · rw [if_neg (by rw [qg]; exact fun h => h h3), if_pos (by rw [qg]; exact h4)]
        constructor
        · intro h; cases h
        · intro h5
          exact absurd (h5.1 x (by simp)).2.2.1 h4
    · rw [if_pos (by rw [qg]; exact h3)]
      constructor
      · intro h; cases h
      · intro h5
        exact absurd (h5.1 x (by simp)).2.1 h3
theorem qki (f : List Node) (h : Int) (n : Node) : rLinksP f h n ↔ linksP f h n := by
  unfold rLinksP linksP kidsB
  rw [Bool.and_eq_true, qet, ← qgb]
  unfold okKid
  constructor
  · rintro ⟨a, b, c, d, e, g⟩
    exact ⟨b, c, d, e, ⟨fun k hk => ⟨(a k hk).1, (a k hk).2.1, (a k hk).2.2.2, by simp⟩, fun k hk => (a k hk).2.2.1⟩, g⟩
  · rintro ⟨b, c, d, e, ⟨a, a2⟩, g⟩
    exact ⟨fun k hk => ⟨(a k hk).1, (a k hk).2.1, a2 k hk, (a k hk).2.2.1⟩, b, c, d, e, g⟩
theorem qgc {p q : Prop} (h : p ↔ q) : dec p = dec q := by rw [propext h]
theorem ql9 (n : Node) (hn : FitN n) : PureC Tryz.prog 135 [n.av] (bav (dec (madeP n))) := by
  rw [← qgc (ql8 n)]
  exact qn6 n hn.data hn.attrs hn.kids
theorem qkj (f : List Node) (i : Int) (hf : Fit f) (h0 : 0 ≤ i) (h1 : i < f.length) : PureC Tryz.prog 136 [fav f, iav (i + 1)] (bav (dec (linksP f (i + 1) (atI f i)))) := by
  have := ql7 f (i + 1) hf.len (fun h => (hf.at h).kids) (by rw [show i + 1 - 1 = i by omega]; exact (hf.atI i h0 h1).kids) (by omega) (by omega)
  rw [qgc (qki f (i + 1) _), show i + 1 - 1 = i by omega] at this
  exact this
theorem qma (f : List Node) (hf : Fit f) : PureC Tryz.prog 100 [fav f] (.tup [iav (checkR f).1, iav (checkR f).2]) := by
  have hl := hf.len
  have hm : (List.map Node.iv f).length = f.length := List.length_map _
  refine yq tabs Tryz.func100 37 [.tmp 2, .tmp 3] rfl rfl rfl rfl rfl ?_; intro w0 X
  (repeat' (first | ((with_reducible show AL _ _ _ _ _); first | (refine AL.step tabs rfl ?_; try dsimp only [len, List.nil_append, List.cons_append]) | refine ym ?_ | (refine yj rfl rfl rfl (fun hc => ?_) (fun hc => ?_) <;> (fail_if_success (exact absurd hc (by decide))) <;> (try simp only [hsx] at hc) <;> (try first | omega | contradiction | (simp [qa] at hc; done))) | (refine AL.op rfl (yi rfl rfl rfl rfl rfl (by omega) (by omega)) ?_) | (refine AL.op rfl (ye tabs rfl rfl rfl rfl rfl rfl rfl (fun _ => rfl) (by decide) (by omega) (by omega)) ?_)) | fail | refine yn ?_ | refine yc ?_ | refine ya ?_ | refine yf ?_ | refine AW.block ?_ | refine yt ?_ | refine yh rfl ?_ | refine yg rfl ?_ | (refine yk rfl (fun hc => ?_) (fun hc => ?_) <;> (try simp only [hsx] at hc) <;> (try first | omega | contradiction | (simp [qa] at hc; done))) | refine yo ?_ | refine yy ?_ | refine yd ?_ | refine yp ?_ | refine yw ?_ | refine yr ?_ | refine InB.off rfl ?_ | refine yz ?_ | refine yu ?_))
  · rw [show checkR f = (5, 0) by unfold checkR; rw [if_pos (by omega)]]
    exact RQ.fin rfl rfl rfl
  rw [show checkR f = chkGo f f 0 by unfold checkR; rw [if_neg (by omega)]]
  refine yak (α := Int) (fun i => ⟨[(1, .ptr 0 1 0 0), (11, .imm (.sl (f.map Node.iv))), (12, iav (List.map Node.iv f).length), (13, iav i)], [⟨24, 1, [[.imm (.sl (f.map Node.iv))]]⟩]⟩) (fun i => 0 ≤ i ∧ i ≤ f.length ∧ chkGo f (f.drop i.toNat) i = chkGo f f 0) (fun i => (f.length - i).toNat) 0 (yae 1 rfl (by repeat' (first | exact trivial | refine ⟨rfl, ?_⟩)) rfl rfl (Nat.zero_le _)) ⟨by omega, by omega, rfl⟩ ?_
  intro i ⟨h0, h1, h2⟩
  (repeat' (first | ((with_reducible show AL _ _ _ _ _); first | (refine AL.step tabs rfl ?_; try dsimp only [len, List.nil_append, List.cons_append]) | refine AL.op rfl (yb rfl rfl rfl rfl (ql9 (atI f i) (hf.atI i (by omega) (by omega))) rfl) ?_ | refine AL.op rfl (yb rfl rfl rfl rfl (qkj f i hf (by omega) (by omega)) rfl) ?_ | refine AL.op rfl (yb rfl rfl rfl rfl (qn8 f (i + 1) hl) rfl) ?_ | refine ym ?_ | (refine yj rfl rfl rfl (fun hc => ?_) (fun hc => ?_) <;> (fail_if_success (exact absurd hc (by decide))) <;> (try simp only [hsx] at hc) <;> (try first | omega | contradiction | (simp [qa] at hc; done))) | (refine AL.op rfl (yi rfl rfl rfl rfl rfl (by omega) (by omega)) ?_) | (refine AL.op rfl (ye tabs rfl rfl rfl rfl rfl rfl rfl (fun _ => rfl) (by decide) (by omega) (by omega)) ?_)) | refine yn ?_ | refine yc ?_ | refine ya ?_ | refine yf ?_ | refine AW.block ?_ | refine yt ?_ | refine yh rfl ?_ | refine yg rfl ?_ | (refine yk rfl (fun hc => ?_) (fun hc => ?_) <;> (try simp only [hsx] at hc) <;> (try first | omega | contradiction | (simp [qa] at hc; done))) | refine yo ?_ | refine yy ?_ | refine yd ?_ | refine yp ?_ | refine yw ?_ | refine yr ?_ | refine InB.off rfl ?_ | refine yz ?_ | refine yu ?_))
  all_goals first
    | (rw [← h2, qat hc]; exact RQ.fin rfl rfl rfl)
    | (have hn : ¬ okP f i (atI f i) := by
         intro hk
         obtain ⟨a1, a2, a3⟩ := hk
         first | exact hc a1 | exact hc a2 | exact hc a3
       rw [← h2, qd h0 (by assumption), chkGo, if_neg (by rw [qb]; exact hn)]
       exact RQ.fin rfl rfl rfl)
    | (refine yag (i + 1) (yae 1 rfl (by repeat' (first | exact trivial | refine ⟨rfl, ?_⟩)) rfl rfl (Nat.zero_le _)) ⟨by omega, by omega, ?_⟩ (by omega)
       rw [← h2, qd h0 (by assumption), chkGo, if_pos (by rw [qb]; exact ⟨by assumption, by assumption, Classical.byContradiction hc⟩)])
theorem qmb (f : List Node) (hf : Fit f) : PureC Tryz.prog 88 [fav f] (bav (dec (rightP f))) := by
  rw [show rightP f = ((checkR f).1 = 0) by rw [(qb2 f).2]]
  refine yq tabs Tryz.func88 12 [.tmp 2] rfl rfl rfl rfl rfl ?_; intro w0 X
  (repeat' (first | ((with_reducible show AL _ _ _ _ _); first | (refine AL.step tabs rfl ?_; try dsimp only [len, List.nil_append, List.cons_append]) | refine AL.op rfl (yb rfl rfl rfl rfl (qma f hf) rfl) ?_ | refine ym ?_) | refine yn ?_ | refine yc ?_ | refine ya ?_ | refine yf ?_ | refine yo ?_ | refine yd ?_))
  all_goals exact RQ.fin rfl rfl rfl
open Go.RowKit
section
variable {C : Cx} {s : St} {o : Oper} {T : List (Nat × TI)} {l : List Oper}
theorem LS.store_m (hT : TsOK C.P T) (hw : awant l s o = some true) (hd : o.dst = none) {t : TypeId} {p x : Operand} (ho : o.op = .store t p x) {i : TI} (hi : look T t = some i) {id ver off : Nat} {j : Int} (hp : s.ev p = some (.ptr id ver j.toNat off)) {v : AV} (hx : s.ev x = some v)
    {α : Type} [Inhabited α] {g : α → List AV} {xs : List α} {ty sz : Nat} (hb : nth s.hp id = some ⟨ty, sz, xs.map g⟩) (hver : ver = xs.length) (h0 : 0 ≤ j) (h1 : j < xs.length) (hlen : (avCells v).length = i.sz) (hcell : (avCells v).all AV.cell = true) (hfit : off + i.sz ≤ sz)
    {y : α} (hy : putRow sz i.sz (g (atI xs j)) off (avCells v) = g y) : LS C l s o (mkFx l s o (.blk id ⟨ty, sz, (xs.set j.toNat y).map g⟩ .undef) []) := by
  have := LS.store hT hw hd ho hi hp hx hb (by simp [hver]) hlen hcell hfit (r := g (atI xs j)) (by simp only [List.getElem?_map]; rw [qaz h0 h1]; rfl)
  rw [hy] at this
  rw [List.map_set]
  exact this
theorem OpOK.take_map (hT : TsOK C.P T) (hd : dok C.nt o.dst = true) {t e : TypeId} {x z : Operand} (ho : o.op = .slice t x none (some z) none) {i ie : TI} (hi1 : look T t = some i) (hk : i.kd = .sl e) (hie : look T e = some ie) {α : Type} {f : α → List IV} {xs ys : List α} (hx : s.ev x = some (.imm (.sl (xs.map f))))
    {h : Int} (hz : s.ev z = some (.imm (.int .i64 h))) (hsz : ∀ q, (f q).length = ie.sz) (h1 : 0 ≤ h) (h2 : h ≤ xs.length) (hys : xs.take h.toNat = ys) : OpOK C s o (s.put o.dst (.imm (.sl (ys.map f)))) := by
  have := yay (C := C) (l := 0) (h := h) hT hd ho hi1 hk hie hx rfl (by unfold bnd; simp only [hz]) hsz (Int.le_refl _) h1 h2
  rw [← hys]
  simpa using this
end
theorem qea (k : Int) : PureC Tryz.prog 50 [kav k] (bav (dec (textB k))) := by
  refine yq tabs Tryz.func50 9 [.tmp 2] rfl rfl rfl rfl rfl ?_; intro w0 X
  (repeat' (first | ((with_reducible show AL _ _ _ _ _); first | (refine AL.step tabs rfl ?_; try dsimp only [len, List.nil_append, List.cons_append]) | refine ym ?_ | (refine yj rfl rfl rfl (fun hc => ?_) (fun hc => ?_) <;> (fail_if_success (exact absurd hc (by decide))) <;> (try simp only [hsx] at hc) <;> (try first | omega | contradiction | (simp [qa] at hc; done)))) | refine yn ?_ | refine yc ?_ | refine ya ?_ | refine yf ?_ | refine yo ?_ | refine yd ?_))
  all_goals (refine RQ.fin rfl rfl (congrArg bav ?_); rw [Bool.eq_iff_iff]; simp only [textB, qb] at *; grind)
theorem qb5 (f : List Node) (h : Int) (hl : f.length ≤ 1000000000) : PureC Tryz.prog 51 [fav f, iav h] (kav (nodeAt f h).kind) := by
  have c1 := qaj f h hl
  refine yq tabs Tryz.func51 15 [.tmp 4] rfl rfl rfl rfl rfl ?_; intro w0 X
  (repeat' (first | ((with_reducible show AL _ _ _ _ _); first | (refine AL.step tabs rfl ?_; try dsimp only [len, List.nil_append, List.cons_append]) | refine AL.op rfl (yb rfl rfl rfl rfl c1 rfl) ?_ | refine ym ?_) | refine yn ?_ | refine yc ?_ | refine ya ?_ | refine yf ?_ | refine yo ?_ | refine yd ?_))
  exact RQ.fin rfl rfl rfl
theorem qc1 (f : List Node) (h : Int) (hf : Fit f) : PureC Tryz.prog 49 [fav f, iav h] (iav (faultR f [h])) := by
  have c1 := qmb f hf
  have c2 := qaj f h hf.len
  have e : faultR f [h] = if dec (rightP f) = true then (if inB f h = true then 0 else 2) else 5 := by unfold faultR; simp
  rw [e]
  obtain ⟨b1, e1⟩ : ∃ b, b = dec (rightP f) := ⟨_, rfl⟩
  obtain ⟨b2, e2⟩ : ∃ b, b = inB f h := ⟨_, rfl⟩
  rw [← e1] at c1 ⊢
  rw [← e2] at c2 ⊢
  refine yq tabs Tryz.func49 18 [.tmp 4] rfl rfl rfl rfl rfl ?_; intro w0 X
  (repeat' (first | ((with_reducible show AL _ _ _ _ _); first | (refine AL.step tabs rfl ?_; try dsimp only [len, List.nil_append, List.cons_append]) | refine AL.op rfl (yb rfl rfl rfl rfl c1 rfl) ?_ | refine AL.op rfl (yb rfl rfl rfl rfl c2 rfl) ?_ | refine ym ?_) | refine yn ?_ | refine yc ?_ | refine ya ?_ | refine yf ?_ | refine yh rfl ?_ | refine yg rfl ?_ | (refine yk rfl (fun hc => ?_) (fun hc => ?_) <;> (try simp only [hsx] at hc) <;> (try first | omega | contradiction | (simp [qa] at hc; done))) | refine yo ?_ | refine yd ?_))
  all_goals (clear c1 c2 e e1 e2; subst_vars; exact RQ.fin rfl rfl rfl)
theorem qhy (k : Int) : hasD k ↔ dataB k := by unfold hasD dataB textB; omega
theorem qeb (f : List Node) (h : Int) (hf : Fit f) : PureC Tryz.prog 63 [fav f, iav h] (iav (cfP f h false)) := by
  have c1 := qc1 f h hf
  have c2 := qb5 f h hf.len
  have c3 := qcl (nodeAt f h).kind
  obtain ⟨e, he⟩ : ∃ e, e = faultR f [h] := ⟨_, rfl⟩
  obtain ⟨k, hk⟩ : ∃ k, k = (nodeAt f h).kind := ⟨_, rfl⟩
  have ec : cfP f h false = if e ≠ 0 then e else if dec (hasD k) = false then 23 else 0 := by
    unfold cfP
    rw [← he, ← hk]
    simp only [Bool.false_eq_true, false_and, or_false]
    rw [show dec (dataB k) = dec (hasD k) by rw [propext (qhy k)]]
  rw [ec]
  rw [← he] at c1
  rw [← hk] at c2 c3
  obtain ⟨b, hb⟩ : ∃ b, b = dec (hasD k) := ⟨_, rfl⟩
  rw [← hb] at c3 ⊢
  refine yq tabs Tryz.func63 19 [.tmp 4] rfl rfl rfl rfl rfl ?_; intro w0 X
  (repeat' (first | ((with_reducible show AL _ _ _ _ _); first | (refine AL.step tabs rfl ?_; try dsimp only [len, List.nil_append, List.cons_append]) | refine AL.op rfl (yb rfl rfl rfl rfl c1 rfl) ?_ | refine AL.op rfl (yb rfl rfl rfl rfl c2 rfl) ?_ | refine AL.op rfl (yb rfl rfl rfl rfl c3 rfl) ?_ | refine ym ?_ | (refine yj rfl rfl rfl (fun hc => ?_) (fun hc => ?_) <;> (fail_if_success (exact absurd hc (by decide))) <;> (try simp only [hsx] at hc) <;> (try first | omega | contradiction | (simp [qa] at hc; done)))) | refine yn ?_ | refine yc ?_ | refine ya ?_ | refine yf ?_ | refine yh rfl ?_ | refine yg rfl ?_ | (refine yk rfl (fun hc => ?_) (fun hc => ?_) <;> (try simp only [hsx] at hc) <;> (try first | omega | contradiction | (simp [qa] at hc; done))) | refine yo ?_ | refine yd ?_))
  · rw [if_neg (by omega), if_pos hc]; exact RQ.fin rfl rfl rfl
  · rw [if_neg (by omega), if_neg (by rw [hc]; simp)]
    rename_i he0
    rw [he0]
    exact RQ.fin rfl rfl rfl
  · rw [if_pos hc]; exact RQ.fin rfl rfl rfl
theorem qmc (f : List Node) (h : Int) (hf : Fit f) : PureC Tryz.prog 90 [fav f, iav h] (iav (idx (nodeAt f (nodeAt f h).parent).kids h)) := by
  have hl := hf.len
  obtain ⟨l, el⟩ : ∃ l, l = (nodeAt f (nodeAt f h).parent).kids := ⟨_, rfl⟩
  have hll : l.length ≤ 1000000000 := by rw [el]; exact (hf.at _).kids
  have hil : (l.map i64).length = l.length := List.length_map _
  have c1 := qaj f h hl
  have c2 := qaj f (nodeAt f h).parent hl
  obtain ⟨m, em⟩ : ∃ m, m = nodeAt f (nodeAt f h).parent := ⟨_, rfl⟩
  rw [← em] at c2 el ⊢
  subst el
  refine yq tabs Tryz.func90 37 [.tmp 4] rfl rfl rfl rfl rfl ?_; intro w0 X
  (repeat' (first | ((with_reducible show AL _ _ _ _ _); first | (refine AL.step tabs rfl ?_; try dsimp only [len, List.nil_append, List.cons_append]) | refine AL.op rfl (yb rfl rfl rfl rfl c1 rfl) ?_ | refine AL.op rfl (yb rfl rfl rfl rfl c2 rfl) ?_ | refine ym ?_ | (refine AL.op rfl (yi rfl rfl rfl rfl rfl (by omega) (by omega)) ?_) | (refine AL.op rfl (ye tabs rfl rfl rfl rfl rfl rfl rfl (fun _ => rfl) (by decide) (by omega) (by omega)) ?_)) | refine yn ?_ | refine yc ?_ | refine ya ?_ | refine yf ?_ | refine AW.block ?_ | refine yt ?_ | refine yh rfl ?_ | refine yg rfl ?_ | (refine yk rfl (fun hc => ?_) (fun hc => ?_) <;> (try simp only [hsx] at hc) <;> (try first | omega | contradiction | (simp [qa] at hc; done))) | refine yo ?_ | refine yy ?_ | refine yd ?_ | refine yp ?_ | refine yw ?_ | refine yr ?_ | refine InB.off rfl ?_ | refine yz ?_ | refine yu ?_))
  refine yak (α := Int) (fun i => ⟨[(1, iav h), (25, .imm (.sl (m.kids.map i64))), (26, iav (m.kids.map i64).length), (27, iav i)], []⟩) (fun i => 0 ≤ i ∧ i ≤ m.kids.length ∧ idx m.kids h = idxGo (m.kids.drop i.toNat) h i) (fun i => (m.kids.length - i).toNat) 0 (yae 0 rfl (by repeat' (first | exact trivial | refine ⟨rfl, ?_⟩)) rfl rfl (Nat.zero_le _)) ⟨by omega, by omega, rfl⟩ ?_
  intro i ⟨h0, h1, h2⟩
  (repeat' (first | ((with_reducible show AL _ _ _ _ _); first | (refine AL.step tabs rfl ?_; try dsimp only [len, List.nil_append, List.cons_append]) | refine ym ?_ | (refine AL.op rfl (yi rfl rfl rfl rfl rfl (by omega) (by omega)) ?_) | (refine AL.op rfl (ye tabs rfl rfl rfl rfl rfl rfl rfl (fun _ => rfl) (by decide) (by omega) (by omega)) ?_)) | refine yn ?_ | refine yc ?_ | refine ya ?_ | refine yf ?_ | refine AW.block ?_ | refine yt ?_ | refine yh rfl ?_ | refine yg rfl ?_ | (refine yk rfl (fun hc => ?_) (fun hc => ?_) <;> (try simp only [hsx] at hc) <;> (try first | omega | contradiction | (simp [qa] at hc; done))) | refine yo ?_ | refine yy ?_ | refine yd ?_ | refine yp ?_ | refine yw ?_ | refine yr ?_ | refine InB.off rfl ?_ | refine yz ?_ | refine yu ?_))
  · rw [qd h0 (by assumption)] at h2
    unfold idxGo at h2
    rw [if_pos (by omega)] at h2
    rw [h2]
    exact RQ.fin rfl rfl rfl
  · rw [qd h0 (by assumption)] at h2
    unfold idxGo at h2
    rw [if_neg (by omega)] at h2
    exact yag (i + 1) (yae 0 rfl (by repeat' (first | exact trivial | refine ⟨rfl, ?_⟩)) rfl rfl (Nat.zero_le _)) ⟨by omega, by omega, h2⟩ (by omega)
  · rw [List.drop_eq_nil_of_le (by omega)] at h2
    rw [h2]
    exact RQ.fin rfl rfl rfl
theorem qc2 (f : List Node) (h b : Int) (hf : Fit f) (hb0 : -1000 ≤ b) (hb1 : b ≤ 1000) : PureC Tryz.prog 75 [fav f, iav h, iav b] (iav (besideP f h b)) := by
  have hl := hf.len
  have c3 := qmc f h hf
  obtain ⟨q, hq⟩ : ∃ q, q = (nodeAt f h).parent := ⟨_, rfl⟩
  rw [← hq] at c3
  obtain ⟨n, hn⟩ : ∃ n, n = nodeAt f q := ⟨_, rfl⟩
  rw [← hn] at c3
  have hk : n.kids.length ≤ 1000000000 := by rw [hn]; exact (hf.at q).kids
  have hml : (n.kids.map i64).length = n.kids.length := List.length_map _
  have h3 := qm0 n.kids h
  have h4 := qjn n.kids h
  have e : besideP f h b = if q = 0 then 0 else if idx n.kids h + b < 0 ∨ (n.kids.length : Int) ≤ idx n.kids h + b then 0 else atI n.kids (idx n.kids h + b) := by unfold besideP; rw [← hq, ← hn]
  have c1 := qaj f h hl
  have c2 := qaj f q hl
  rw [← hn] at c2
  obtain ⟨m, hm⟩ : ∃ m, m = nodeAt f h := ⟨_, rfl⟩
  rw [← hm] at hq c1
  subst hq
  rw [e]
  refine yq tabs Tryz.func75 49 [.tmp 6] rfl rfl rfl rfl rfl ?_; intro w0 X
  (repeat' (first | ((with_reducible show AL _ _ _ _ _); first | (refine AL.step tabs rfl ?_; try dsimp only [len, List.nil_append, List.cons_append]) | refine AL.op rfl (yb rfl rfl rfl rfl c1 rfl) ?_ | refine AL.op rfl (yb rfl rfl rfl rfl c2 rfl) ?_ | refine AL.op rfl (yb rfl rfl rfl rfl c3 rfl) ?_ | refine ym ?_ | (refine yj rfl rfl rfl (fun hc => ?_) (fun hc => ?_) <;> (fail_if_success (exact absurd hc (by decide))) <;> (try simp only [hsx] at hc) <;> (try first | omega | contradiction | (simp [qa] at hc; done))) | (refine AL.op rfl (yi rfl rfl rfl rfl rfl (by omega) (by omega)) ?_) | (refine AL.op rfl (ye tabs rfl rfl rfl rfl rfl rfl rfl (fun _ => rfl) (by decide) (by omega) (by omega)) ?_)) | refine yn ?_ | refine yc ?_ | refine ya ?_ | refine yf ?_ | refine yh rfl ?_ | refine yg rfl ?_ | (refine yk rfl (fun hc => ?_) (fun hc => ?_) <;> (try simp only [hsx] at hc) <;> (try first | omega | contradiction | (simp [qa] at hc; done))) | refine yo ?_ | refine yd ?_))
  all_goals first
    | (rw [if_pos (by omega)]; exact RQ.fin rfl rfl rfl)
    | (rw [if_neg (by omega), if_pos (by omega)]; exact RQ.fin rfl rfl rfl)
    | (rw [if_neg (by omega), if_neg (by omega)]; exact RQ.fin rfl rfl rfl)
theorem OpOK.min2e {C : Cx} {s : St} {o : Oper} (hd : dok C.nt o.dst = true) {x y : Operand} {t t2 : TypeId} (ho : o.op = .call ⟨.builtin .min, #[x, y], #[t, t2]⟩) {k k2 : IntKind} {m n r : Int} (hx : s.ev x = some (.imm (.int k m))) (hy : s.ev y = some (.imm (.int k2 n))) (he : min m n = r) : OpOK C s o (s.put o.dst (.imm (.int k r))) :=
  he ▸ OpOK.min2 hd ho hx hy
theorem qo2 (l : List Int) (off cnt : Int) (h0 : 0 ≤ off) (h1 : off < 4294967296) (h2 : 0 ≤ cnt) (h3 : cnt < 4294967296) (hl : l.length ≤ 1000000000) : PureC Tryz.prog 74 [.imm (.sl (l.map u16)), u32 off, u32 cnt] (.tup [.imm (.sl ((if off ≤ l.length then subP l off cnt else []).map u16)), iav (if off ≤ l.length then 0 else 14)]) := by
  have hml : (l.map u16).length = l.length := List.length_map _
  have hsl : (subP l off cnt).length ≤ 1000000000 := by unfold subP; simp only [List.length_drop, List.length_take]; omega
  by_cases h : off ≤ l.length
  · rw [if_pos h, if_pos h]
    have hs0 : off ≤ spTo l.length off cnt := by unfold spTo; omega
    have hs1 : spTo l.length off cnt ≤ l.length := by unfold spTo; omega
    have hmin : min (off + cnt) ((l.map u16).length : Int) = spTo l.length off cnt := by rw [hml]; unfold spTo; omega
    refine yq tabs Tryz.func74 28 [.tmp 6, .tmp 7] rfl rfl rfl rfl rfl ?_; intro w0 X
    (repeat' (first | ((with_reducible show AL _ _ _ _ _); first | refine AL.op rfl (ybn tabs rfl rfl rfl rfl rfl rfl (by omega) (by omega)) ?_ | refine AL.op rfl (OpOK.min2e rfl rfl rfl rfl hmin) ?_ | (refine AL.step tabs rfl ?_; try dsimp only [len, List.nil_append, List.cons_append]) | (refine AL.op rfl (yi rfl rfl rfl rfl rfl (by omega) (by omega)) ?_) | refine AL.op rfl (yay (i := ti36) (ie := ti55) (e := 55) (f := u16) (xs := l) (l := off) (h := spTo l.length off cnt) tabs rfl rfl rfl rfl rfl rfl rfl rfl (fun _ => rfl) (by omega) (by omega) (by omega)) ?_ | refine yad rfl (yal (ie := ti55) (b := ⟨55, 1, []⟩) tabs rfl rfl rfl rfl rfl rfl rfl rfl rfl rfl (SrcA.imm (rows := (subP l off cnt).map u16) tabs rfl rfl rfl (by simp [u16, ti55])) (by simp [ti55, chunk]; omega) (by simp [chunk]; omega)) rfl ?_ | refine ym ?_ | (refine AL.op rfl (yi rfl rfl rfl rfl rfl (by omega) (by omega)) ?_)) | (exfalso; omega) | refine yn ?_ | refine yc ?_ | refine ya ?_ | refine yf ?_ | refine yh rfl ?_ | refine yg rfl ?_ | (refine yk rfl (fun hc => ?_) (fun hc => ?_) <;> (try simp only [hsx] at hc) <;> (try first | omega | contradiction | (simp [qa] at hc; done))) | refine yo ?_ | refine yd ?_))
    refine yao rfl (ya0 (.cons (Fz.os (b := ⟨55, 1, ((subP l off cnt).map u16).map (·.map .imm)⟩) (rows := (subP l off cnt).map u16) rfl ?_ rfl) (.cons (Fz.im rfl) .nil)))
    simp
  · rw [if_neg h, if_neg h]
    refine yq tabs Tryz.func74 28 [.tmp 6, .tmp 7] rfl rfl rfl rfl rfl ?_; intro w0 X
    (repeat' (first | ((with_reducible show AL _ _ _ _ _); first | refine AL.op rfl (ybn tabs rfl rfl rfl rfl rfl rfl (by omega) (by omega)) ?_ | (refine AL.step tabs rfl ?_; try dsimp only [len, List.nil_append, List.cons_append]) | refine ym ?_ | (refine AL.op rfl (yi rfl rfl rfl rfl rfl (by omega) (by omega)) ?_)) | (exfalso; omega) | refine yn ?_ | refine yc ?_ | refine ya ?_ | refine yf ?_ | refine yh rfl ?_ | refine yg rfl ?_ | (refine yk rfl (fun hc => ?_) (fun hc => ?_) <;> (try simp only [hsx] at hc) <;> (try first | omega | contradiction | (simp [qa] at hc; done))) | refine yo ?_ | refine yd ?_))
    exact RQ.fin rfl rfl rfl
end Go.Proofs.YtmhejcnaanocpaaGreat.A
