/- Contracts: package forest, links. -/
import Derived.Test.YtjjdabihnmilgaaGreatXRTGrpAM
import Derived.Test.YtjjdabihnmilgaaGreatXRTGrpAI
namespace Go.Proofs.YtjjdabihnmilgaaGreat.A
set_option linter.unusedVariables false
set_option linter.unusedSimpArgs false
set_option maxRecDepth 100000
set_option maxHeartbeats 4000000
def l1 (f : List Node) (h : Int) (n : Node) : Prop := n.parent = 0 ∨ (inB f n.parent = true ∧ (cntB (nodeAt f n.parent).kids h : Int) = 1)
def l2 (f : List Node) (h : Int) (n : Node) : Prop := (nodeAt f n.doc).kind = 9 ∧ (n.kind = 9 → n.doc = h)
def l3 (f : List Node) (h : Int) (n : Node) : Prop := n.shadow = 0 ∨ (inB f n.shadow = true ∧ (nodeAt f n.shadow).kind = 12 ∧ (nodeAt f n.shadow).host = h)
def l4 (f : List Node) (h : Int) (n : Node) : Prop := n.kind = 12 → (inB f n.host = true ∧ (nodeAt f n.host).kind = 1 ∧ (nodeAt f n.host).shadow = h ∧ (nodeAt f n.host).doc = n.doc)
def linksP (f : List Node) (h : Int) (n : Node) : Prop := l1 f h n ∧ l2 f h n ∧ l3 f h n ∧ l4 f h n ∧ kidsB f h n = true
theorem links_c (f : List Node) (h : Int) (hl : f.length ≤ 1000000000) (hk : ∀ h, (nodeAt f h).kids.length ≤ 1000000000) (hk' : (atI f (h - 1)).kids.length ≤ 1000000000) (h1 : 1 ≤ h) (h2 : h ≤ f.length) : PureC Tryz.prog 138 [fav f, iav h] (bav (dec (linksP f h (atI f (h - 1))))) := by
  refine PureC.mk tabs Tryz.func138 110 [.tmp 4] rfl rfl rfl rfl rfl ?_; intro w0 X
  (repeat' (first | ((with_reducible show AL _ _ _ _ _); first | (refine AL.step tabs rfl ?_; try dsimp only [len, List.nil_append, List.cons_append]) | refine AL.op rfl (OpOK.call rfl rfl rfl rfl (at_c f (atI f (h - 1)).parent hl) rfl) ?_ | refine AL.op rfl (OpOK.call rfl rfl rfl rfl (at_c f (atI f (h - 1)).shadow hl) rfl) ?_ | refine AL.op rfl (OpOK.call rfl rfl rfl rfl (at_c f (atI f (h - 1)).host hl) rfl) ?_ | refine AL.op rfl (OpOK.call rfl rfl rfl rfl (kind_c f (atI f (h - 1)).doc hl) rfl) ?_ | refine AL.op rfl (OpOK.call rfl rfl rfl rfl (once_c (nodeAt f (atI f (h - 1)).parent).kids h (hk _)) rfl) ?_ | refine AL.op rfl (OpOK.call rfl rfl rfl rfl (kidsOf_c f h (atI f (h - 1)) hl hk') rfl) ?_ | refine AL.nil ?_ | (refine AL.gsplitE rfl rfl rfl (fun hc => ?_) (fun hc => ?_) <;> (fail_if_success (exact absurd hc (by decide))) <;> (try simp only [hsx] at hc) <;> (try first | (exfalso; omega) | contradiction | (exfalso; simp [dec_eq] at hc; done))) | (refine AL.op rfl (OpOK.ari64 rfl rfl rfl rfl rfl (by omega) (by omega)) ?_) | (refine AL.op rfl (OpOK.index_map tabs rfl rfl rfl rfl rfl rfl rfl (fun _ => rfl) (by decide) (by omega) (by omega)) ?_)) | refine AW.meet (t := 20) (l1 f h (atI f (h - 1))) ⟨[(1, iav h), (2, .ptr 0 1 0 0), (5, .ptr 1 1 0 0)], [⟨24, 1, [[.imm (.sl (f.map Node.iv))]]⟩, ⟨81, 16, [(atI f (h - 1)).iv.map .imm]⟩]⟩ ?_ (fun ml1 => ?_) | refine AW.meet (t := 52) (l2 f h (atI f (h - 1))) ⟨[(1, iav h), (2, .ptr 0 1 0 0), (5, .ptr 1 1 0 0)], [⟨24, 1, [[.imm (.sl (f.map Node.iv))]]⟩, ⟨81, 16, [(atI f (h - 1)).iv.map .imm]⟩]⟩ ?_ (fun ml2 => ?_) | refine AW.meet (t := 55) (l3 f h (atI f (h - 1))) ⟨[(1, iav h), (2, .ptr 0 1 0 0), (5, .ptr 1 1 0 0)], [⟨24, 1, [[.imm (.sl (f.map Node.iv))]]⟩, ⟨81, 16, [(atI f (h - 1)).iv.map .imm]⟩]⟩ ?_ (fun ml3 => ?_) | refine AW.meet (t := 78) (l4 f h (atI f (h - 1))) ⟨[(1, iav h), (2, .ptr 0 1 0 0), (5, .ptr 1 1 0 0)], [⟨24, 1, [[.imm (.sl (f.map Node.iv))]]⟩, ⟨81, 16, [(atI f (h - 1)).iv.map .imm]⟩]⟩ ?_ (fun ml4 => ?_) | refine AW.seq ?_ | refine AW.region ?_ | refine Then.norm ?_ | refine AW.skip ?_ | refine AW.condT rfl ?_ | refine AW.condF rfl ?_ | (refine AW.cond rfl (fun hc => ?_) (fun hc => ?_) <;> (try simp only [hsx] at hc) <;> (try first | (exfalso; omega) | contradiction | (exfalso; simp [dec_eq] at hc; done))) | refine AW.ret ?_ | refine Then.ret ?_))
  all_goals try (refine RQ.fin rfl rfl (congrArg bav ?_); rw [Bool.eq_iff_iff]; simp only [linksP, l1, l2, l3, l4, dec_true, Bool.not_eq_true', dec_false]; grind)
  all_goals try (refine Meet.of ?_ (Le.cut 2 rfl ⟨rfl, rfl, rfl, trivial⟩ rfl rfl (Nat.zero_le _)); simp only [l1, l2, l3, l4]; grind)
  refine RQ.fin rfl rfl (congrArg bav ?_)
  simp only [linksP, ml1, ml2, ml3, ml4, true_and, dec_bt]
end Go.Proofs.YtjjdabihnmilgaaGreat.A
namespace Go.Proofs.YtjjdabihnmilgaaGreat.A
set_option linter.unusedVariables false
set_option linter.unusedSimpArgs false
set_option maxRecDepth 100000
set_option maxHeartbeats 4000000
def upN (f : List Node) (x : Int) : Int := aboveOf (atI f (x - 1))
def itN (f : List Node) : Nat → Int → Int
  | 0, x => x
  | k + 1, x => itN f k (upN f x)
def inR (f : List Node) (x : Int) : Prop := 1 ≤ x ∧ x ≤ f.length
def Good (f : List Node) (x : Int) : Prop := ∃ k, ¬ inR f (itN f k x)
section
variable {f : List Node} {x w : Int}
theorem good_out (h : ¬ inR f x) : Good f x := ⟨0, h⟩
theorem itN_add (f : List Node) : ∀ (a b : Nat) (x : Int), itN f (a + b) x = itN f b (itN f a x)
  | 0, b, x => by rw [Nat.zero_add]; rfl
  | a + 1, b, x => by
    rw [show a + 1 + b = (a + b) + 1 by omega]
    exact itN_add f a b (upN f x)
def Reach (f : List Node) (w x : Int) : Prop := ∃ k, 1 ≤ k ∧ itN f k w = x ∧ ∀ j, j < k → inR f (itN f j w)
theorem reach_one (h : inR f x) : Reach f x (upN f x) := ⟨1, Nat.le_refl _, rfl, fun j hj => by
  have : j = 0 := by omega
  subst this; exact h⟩
theorem reach_up (h : Reach f w x) (hx : inR f x) : Reach f w (upN f x) := by
  obtain ⟨k, h1, h2, h3⟩ := h
  refine ⟨k + 1, by omega, by rw [itN_add, h2]; rfl, fun j hj => ?_⟩
  rcases Nat.lt_or_ge j k with h | h
  · exact h3 j h
  · have : j = k := by omega
    subst this; rw [h2]; exact hx
theorem reach_good (h : Reach f w x) : Good f w ↔ Good f x := by
  obtain ⟨k, h1, h2, h3⟩ := h
  constructor
  · rintro ⟨m, hm⟩
    rcases Nat.lt_or_ge m k with h | h
    · exact absurd (h3 m h) hm
    · refine ⟨m - k, ?_⟩
      rw [← h2, ← itN_add, show k + (m - k) = m by omega]
      exact hm
  · rintro ⟨m, hm⟩
    refine ⟨k + m, ?_⟩
    rw [itN_add, h2]; exact hm
theorem reach_in (h : Reach f w x) : inR f w := by
  obtain ⟨k, h1, h2, h3⟩ := h
  exact h3 0 (by omega)
theorem reach_loop (h : Reach f x x) : ¬ Good f x := by
  obtain ⟨k, h1, h2, h3⟩ := h
  rintro ⟨m, hm⟩
  induction m using Nat.strongRecOn with
  | _ m ih =>
    rcases Nat.lt_or_ge m k with h | h
    · exact hm (h3 m h)
    · refine ih (m - k) (by omega) ?_
      have : itN f m x = itN f (m - k) x := by
        rw [show m = k + (m - k) by omega, itN_add, h2]
        congr 1
        omega
      rw [← this]; exact hm
end
theorem atI_set {α : Type} [Inhabited α] (l : List α) (i j : Int) (v : α) (hi : 0 ≤ i) (h1 : i < l.length) (hj : 0 ≤ j) : atI (l.set i.toNat v) j = if j = i then v else atI l j := by
  unfold atI
  simp only [List.getD_eq_getElem?_getD]
  by_cases e : j = i
  · subst e
    rw [if_pos rfl, List.getElem?_set_self (by omega)]; rfl
  · rw [if_neg e, List.getElem?_set_ne (by omega)]
def zs (st : List Int) : Nat := st.countP fun v => v == 0
theorem zs_set (st : List Int) (i : Int) (v : Int) (hi : 0 ≤ i) (h1 : i < st.length) (h0 : atI st i = 0) (hv : v ≠ 0) : zs (st.set i.toNat v) + 1 = zs st := by
  have hl : i.toNat < st.length := by omega
  have e : st[i.toNat] = 0 := by
    have := atI_get hi h1
    rw [List.getElem?_eq_getElem hl] at this
    rw [Option.some.inj this]; exact h0
  unfold zs
  rw [List.countP_set hl]
  have hp : 0 < st.countP (fun v => v == 0) := List.countP_pos_iff.2 ⟨st[i.toNat], List.getElem_mem hl, by rw [e]; rfl⟩
  simp [e, hv]
  omega
theorem zs_le (st : List Int) : zs st ≤ st.length := List.countP_le_length
def cI (v : Int) : List AV := [iav v]
def cB (b : Bool) : List AV := [bav b]
/-- What is known of the states between two nodes. -/
structure StOK (f : List Node) (st : List Int) : Prop where
  len : (st.length : Int) = f.length + 1
  at0 : atI st 0 = 0
  ok : ∀ x, inR f x → atI st x = 0 ∨ (atI st x = 2 ∧ Good f x) ∨ (atI st x = 3 ∧ ¬ Good f x)
structure WayOK (f : List Node) (st0 : List Int) (h : Int) (st way : List Int) (x : Int) : Prop where
  len : (st.length : Int) = f.length + 1
  at0 : atI st 0 = 0
  was : ∀ y, inR f y → (y ∈ way ∧ atI st y = 1) ∨ (y ∉ way ∧ atI st y = atI st0 y)
  rch : ∀ w ∈ way, Reach f w x
  fst : (x = h ∧ way = []) ∨ h ∈ way
  cnt : zs st + way.length ≤ f.length + 1
noncomputable def endsL (f : List Node) : List Bool := (List.range (f.length + 1)).map fun h : Nat => dec (1 ≤ h ∧ Good f (h : Int))
theorem above_u (f : List Node) (x : Int) : PureC Tryz.prog 189 [(atI f (x - 1)).av] (iav (upN f x)) := above_c _
theorem ends_c (f : List Node) (hl : f.length ≤ 1000000000) : PureC Tryz.prog 136 [fav f] (.imm (.sl ((endsL f).map fun b => [.bool b]))) := by
  have hm : (List.map Node.iv f).length = f.length := List.length_map _
  refine PureC.mk tabs Tryz.func136 101 [.tmp 2] rfl rfl rfl rfl rfl ?_; intro w0 X
  (repeat' (first | ((with_reducible show AL _ _ _ _ _); first | (refine AL.step tabs rfl ?_; try dsimp only [len, List.nil_append, List.cons_append]) | (refine AL.op rfl (OpOK.ari64 rfl rfl rfl rfl rfl (by omega) (by omega)) ?_) | refine AL.ope rfl (OpOK.make tabs rfl rfl rfl rfl rfl rfl rfl (by omega) (by omega) (by omega) (by decide) rfl (by simp only [ti3]; omega)) rfl ?_ | refine AL.nil ?_ | (refine AL.gsplitE rfl rfl rfl (fun hc => ?_) (fun hc => ?_) <;> (fail_if_success (exact absurd hc (by decide))) <;> (try simp only [hsx] at hc) <;> (try first | (exfalso; omega) | contradiction | (exfalso; simp [dec_eq] at hc; done))) | (refine AL.op rfl (OpOK.ari64 rfl rfl rfl rfl rfl (by omega) (by omega)) ?_) | (refine AL.op rfl (OpOK.index_map tabs rfl rfl rfl rfl rfl rfl rfl (fun _ => rfl) (by decide) (by omega) (by omega)) ?_)) | refine AW.seq ?_ | refine AW.region ?_ | refine Then.norm ?_ | refine AW.skip ?_ | refine AW.block ?_ | refine InB.norm ?_ | refine AW.condT rfl ?_ | refine AW.condF rfl ?_ | (refine AW.cond rfl (fun hc => ?_) (fun hc => ?_) <;> (try simp only [hsx] at hc) <;> (try first | (exfalso; omega) | contradiction | (exfalso; simp [dec_eq] at hc; done))) | refine AW.ret ?_ | refine AW.exit ?_ | refine Then.ret ?_ | refine Then.exit ?_ | refine InB.ret ?_ | refine InB.here ?_ | refine InB.off rfl ?_ | refine Rnd.ret ?_ | refine Rnd.exit ?_))
  refine AW.loop (α := List Int × Int) (fun y => ⟨[(1, .ptr 0 1 0 0), (3, .os 1 (f.length + 1)), (19, iav (List.map Node.iv f).length), (20, iav y.2)], [⟨24, 1, [[.imm (.sl (f.map Node.iv))]]⟩, ⟨3, 1, y.1.map cI⟩]⟩) (fun y => 0 ≤ y.2 ∧ y.2 ≤ f.length ∧ StOK f y.1 ∧ ∀ x, 1 ≤ x → x ≤ y.2 → atI y.1 x ≠ 0) (fun y => (f.length - y.2).toNat) (List.replicate (((List.map Node.iv f).length : Int) + 1).toNat 0, 0) (Le.cut 2 (by rw [List.map_replicate]; rfl) ⟨rfl, by rw [show f.length + 1 = (((List.map Node.iv f).length : Int) + 1).toNat by omega]; rfl, rfl, rfl, trivial⟩ rfl (by simp only [List.all_cons, List.all_nil, List.all_map, Function.comp_def, cI, cB, iav, bav, AV.sc1, AV.sc0, Bool.and_true, Bool.and_self, all_tt]; try rfl) (Nat.zero_le _)) ⟨by simp, by simp, ⟨by simp, ?_, fun x hx => .inl ?_⟩, fun x h1 h2 => by simp only at h2; omega⟩ ?_
  · unfold atI; simp [List.getD_eq_getElem?_getD]
  · unfold atI inR at *; simp only [List.getD_eq_getElem?_getD]; rw [List.getElem?_replicate]; split <;> rfl
  rintro ⟨st, i⟩ ⟨h0, h1, hS, hz⟩
  simp only at h0 h1 hS hz
  have hSn := hS.len
  (repeat' (first | ((with_reducible show AL _ _ _ _ _); first | (refine AL.step tabs rfl ?_; try dsimp only [len, List.nil_append, List.cons_append]) | refine AL.ope rfl (OpOK.index_own tabs rfl rfl rfl rfl rfl rfl rfl rfl (by have := hb.1.len; simp; omega) rfl (by omega) (by omega)) rfl ?_ | refine AL.ope rfl (OpOK.load_m tabs rfl rfl rfl rfl (g := cI) rfl (by have := hb.1.len; omega) (by omega) (by have := hb.1.len; omega) rfl) rfl ?_ | refine AL.ope rfl (OpOK.len_os tabs rfl rfl rfl rfl rfl rfl (by simp; try omega)) rfl ?_ | refine AL.ope rfl (OpOK.make tabs rfl rfl rfl rfl rfl rfl rfl (by omega) (by omega) (by omega) (by decide) rfl (by simp only [ti4]; omega)) rfl ?_ | refine AL.nil ?_ | (refine AL.gsplitE rfl rfl rfl (fun hc => ?_) (fun hc => ?_) <;> (fail_if_success (exact absurd hc (by decide))) <;> (try simp only [hsx] at hc) <;> (try first | (exfalso; omega) | contradiction | (exfalso; simp [dec_eq] at hc; done))) | (refine AL.op rfl (OpOK.ari64 rfl rfl rfl rfl rfl (by omega) (by omega)) ?_) | (refine AL.op rfl (OpOK.index_map tabs rfl rfl rfl rfl rfl rfl rfl (fun _ => rfl) (by decide) (by omega) (by omega)) ?_)) | refine AW.seqx (x := .block 2 _) (β := List Int × List Int × Int) (fun b => ⟨[(1, .ptr 0 1 0 0), (3, .os 1 (f.length + 1)), (5, .os 2 b.2.1.length), (6, iav b.2.2), (19, iav (List.map Node.iv f).length), (20, iav i)], [⟨24, 1, [[.imm (.sl (f.map Node.iv))]]⟩, ⟨3, 1, b.1.map cI⟩, ⟨3, 1, b.2.1.map cI⟩]⟩) (fun b => WayOK f st (i + 1) b.1 b.2.1 b.2.2 ∧ (inR f b.2.2 → atI b.1 b.2.2 ≠ 0)) ?_ (fun b hb => ?_) | refine AW.seqx (x := .seq (.region 12 _ _) _) (β := Int) (fun e => ⟨[(1, .ptr 0 1 0 0), (3, .os 1 (f.length + 1)), (5, .os 2 b.2.1.length), (7, iav e), (19, iav (List.map Node.iv f).length), (20, iav i)], [⟨24, 1, [[.imm (.sl (f.map Node.iv))]]⟩, ⟨3, 1, b.1.map cI⟩, ⟨3, 1, b.2.1.map cI⟩]⟩) (fun e => (e = 2 ∧ Good f b.2.2) ∨ (e = 3 ∧ ¬ Good f b.2.2)) ?_ (fun e he => ?_) | refine AW.seq ?_ | refine AW.region ?_ | refine Then.norm ?_ | refine AW.skip ?_ | refine AW.block ?_ | refine InB.norm ?_ | refine AW.condT rfl ?_ | refine AW.condF rfl ?_ | (refine AW.cond rfl (fun hc => ?_) (fun hc => ?_) <;> (try simp only [hsx] at hc) <;> (try first | (exfalso; omega) | contradiction | (exfalso; simp [dec_eq] at hc; done))) | refine AW.ret ?_ | refine AW.exit ?_ | refine Then.ret ?_ | refine Then.exit ?_ | refine InB.ret ?_ | refine InB.here ?_ | refine InB.off rfl ?_ | refine Rnd.ret ?_ | refine Rnd.exit ?_))
  · refine AW.loop (α := List Int × List Int × Int) (fun b => ⟨[(1, .ptr 0 1 0 0), (3, .os 1 (f.length + 1)), (5, .os 2 b.2.1.length), (6, iav b.2.2), (19, iav (List.map Node.iv f).length), (20, iav i)], [⟨24, 1, [[.imm (.sl (f.map Node.iv))]]⟩, ⟨3, 1, b.1.map cI⟩, ⟨3, 1, b.2.1.map cI⟩]⟩) (fun b => WayOK f st (i + 1) b.1 b.2.1 b.2.2) (fun b => zs b.1) (st, [], i + 1) (Le.trans (Le.fresh 5 3 1 rfl rfl) (Le.cut 3 rfl (by repeat' (first | exact trivial | refine ⟨rfl, ?_⟩)) rfl (by simp only [List.all_cons, List.all_nil, List.all_map, Function.comp_def, cI, cB, iav, bav, AV.sc1, AV.sc0, Bool.and_true, Bool.and_self, all_tt]; try rfl) (Nat.zero_le _))) ⟨hS.len, hS.at0, fun y hy => .inr ⟨by simp, rfl⟩, by simp, .inl ⟨rfl, rfl⟩, by have := zs_le st; simp only [List.length_nil]; omega⟩ ?_
    rintro ⟨st1, way, x⟩ hW
    simp only at hW
    have hn := hW.len
    have hcnt := hW.cnt
    (repeat' (first | ((with_reducible show AL _ _ _ _ _); first | (refine AL.step tabs rfl ?_; try dsimp only [len, List.nil_append, List.cons_append]) | (refine AL.op rfl (OpOK.ari64 rfl rfl rfl rfl rfl (by omega) (by omega)) ?_) | refine AL.ope rfl (OpOK.index_own tabs rfl rfl rfl rfl rfl rfl rfl rfl (by simp; omega) rfl (by omega) (by omega)) rfl ?_ | refine AL.ope rfl (OpOK.load_m tabs rfl rfl rfl rfl (g := cI) rfl (by omega) (by omega) (by omega) rfl) rfl ?_ | refine AL.ope rfl (OpOK.store_m tabs rfl rfl rfl rfl rfl (g := cI) (y := 1) rfl (by omega) (by omega) (by omega) rfl rfl rfl rfl) rfl ?_ | refine AL.ope rfl (OpOK.append_m tabs rfl rfl rfl rfl rfl rfl (g := cI) (ys := [x]) rfl rfl rfl rfl (SrcA.own tabs rfl rfl rfl (b := ⟨3, 1, [x].map cI⟩) rfl (by simp) rfl (by simp [cI, ti3]) (by simp [cI, iav, AV.cell])) (by simp [ti3]; omega) (by simp; omega)) rfl ?_ | refine AL.op rfl (OpOK.call rfl rfl rfl rfl (above_u f x) rfl) ?_ | refine AL.nil ?_ | (refine AL.gsplitE rfl rfl rfl (fun hc => ?_) (fun hc => ?_) <;> (fail_if_success (exact absurd hc (by decide))) <;> (try simp only [hsx] at hc) <;> (try first | (exfalso; omega) | contradiction | (exfalso; simp [dec_eq] at hc; done))) | (refine AL.op rfl (OpOK.ari64 rfl rfl rfl rfl rfl (by omega) (by omega)) ?_) | (refine AL.op rfl (OpOK.index_map tabs rfl rfl rfl rfl rfl rfl rfl (fun _ => rfl) (by decide) (by omega) (by omega)) ?_)) | refine AW.seq ?_ | refine AW.region ?_ | refine Then.norm ?_ | refine AW.skip ?_ | refine AW.block ?_ | refine InB.norm ?_ | refine AW.condT rfl ?_ | refine AW.condF rfl ?_ | (refine AW.cond rfl (fun hc => ?_) (fun hc => ?_) <;> (try simp only [hsx] at hc) <;> (try first | (exfalso; omega) | contradiction | (exfalso; simp [dec_eq] at hc; done))) | refine AW.ret ?_ | refine AW.exit ?_ | refine Then.ret ?_ | refine Then.exit ?_ | refine InB.ret ?_ | refine InB.here ?_ | refine InB.off rfl ?_ | refine Rnd.ret ?_ | refine Rnd.exit ?_))
    · have hx : inR f x := ⟨by assumption, by assumption⟩
      refine Rnd.norm (st1.set x.toNat 1, way ++ [x], upN f x) (Le.cut 3 rfl (by repeat' (first | exact trivial | refine ⟨rfl, ?_⟩)) rfl (by simp only [List.all_cons, List.all_nil, List.all_map, Function.comp_def, cI, cB, iav, bav, AV.sc1, AV.sc0, Bool.and_true, Bool.and_self, all_tt]; try rfl) (Nat.zero_le _)) ⟨?_, ?_, fun y hy => ?_, fun w hw => ?_, .inr ?_, ?_⟩ ?_
      · simpa using hn
      · rw [atI_set _ _ _ _ (by omega) (by omega) (by omega), if_neg (by omega)]; exact hW.at0
      · have := hy.1
        rw [atI_set _ _ _ _ (by omega) (by omega) (by omega)]
        by_cases e : y = x
        · subst e; exact .inl ⟨by simp, by simp⟩
        · rw [if_neg e]
          rcases hW.was y hy with ⟨h1, h2⟩ | ⟨h1, h2⟩
          · exact .inl ⟨by simp [h1], h2⟩
          · exact .inr ⟨by simp [h1, e], h2⟩
      · simp only [List.mem_append, List.mem_singleton] at hw
        rcases hw with h | rfl
        · exact reach_up (hW.rch w h) hx
        · exact reach_one hx
      · rcases hW.fst with ⟨h1, h2⟩ | h
        · simp [h1]
        · simp [h]
      · have := zs_set st1 x 1 (by omega) (by omega) hc (by omega)
        simp only [List.length_append, List.length_singleton]
        omega
      · have := zs_set st1 x 1 (by omega) (by omega) hc (by omega)
        simp only
        omega
    all_goals exact MeetX.of (st1, way, x) (Le.cut 3 rfl (by repeat' (first | exact trivial | refine ⟨rfl, ?_⟩)) rfl (by simp only [List.all_cons, List.all_nil, List.all_map, Function.comp_def, cI, cB, iav, bav, AV.sc1, AV.sc0, Bool.and_true, Bool.and_self, all_tt]; try rfl) (Nat.zero_le _)) ⟨hW, fun h => by first | exact hc | (unfold inR at h; simp only at h; omega)⟩
  · refine MeetX.of 3 (Le.cut 3 rfl (by repeat' (first | exact trivial | refine ⟨rfl, ?_⟩)) rfl (by simp only [List.all_cons, List.all_nil, List.all_map, Function.comp_def, cI, cB, iav, bav, AV.sc1, AV.sc0, Bool.and_true, Bool.and_self, all_tt]; try rfl) (Nat.zero_le _)) (.inr ⟨rfl, ?_⟩)
    have hx : inR f b.2.2 := ⟨by assumption, by assumption⟩
    rcases hb.1.was _ hx with ⟨h1, h2⟩ | ⟨h1, h2⟩
    · exact reach_loop (hb.1.rch _ h1)
    · rcases hS.ok _ hx with h | h | h
      · exact absurd (h2.trans h) (hb.2 hx)
      · exact absurd (h2.trans h.1) hc
      · exact h.2
  · refine MeetX.of 2 (Le.cut 3 rfl (by repeat' (first | exact trivial | refine ⟨rfl, ?_⟩)) rfl (by simp only [List.all_cons, List.all_nil, List.all_map, Function.comp_def, cI, cB, iav, bav, AV.sc1, AV.sc0, Bool.and_true, Bool.and_self, all_tt]; try rfl) (Nat.zero_le _)) (.inl ⟨rfl, ?_⟩)
    have hx : inR f b.2.2 := ⟨by assumption, by assumption⟩
    rcases hb.1.was _ hx with ⟨h1, h2⟩ | ⟨h1, h2⟩
    · omega
    · rcases hS.ok _ hx with h | h | h
      · omega
      · exact h.2
      · omega
  · exact MeetX.of 2 (Le.cut 3 rfl (by repeat' (first | exact trivial | refine ⟨rfl, ?_⟩)) rfl (by simp only [List.all_cons, List.all_nil, List.all_map, Function.comp_def, cI, cB, iav, bav, AV.sc1, AV.sc0, Bool.and_true, Bool.and_self, all_tt]; try rfl) (Nat.zero_le _)) (.inl ⟨rfl, good_out (by unfold inR; omega)⟩)
  · exact MeetX.of 2 (Le.cut 3 rfl (by repeat' (first | exact trivial | refine ⟨rfl, ?_⟩)) rfl (by simp only [List.all_cons, List.all_nil, List.all_map, Function.comp_def, cI, cB, iav, bav, AV.sc1, AV.sc0, Bool.and_true, Bool.and_self, all_tt]; try rfl) (Nat.zero_le _)) (.inl ⟨rfl, good_out (by unfold inR; omega)⟩)
  · obtain ⟨st1, way, x⟩ := b
    simp only at hb he
    obtain ⟨hW, hx0⟩ := hb
    have hcnt := hW.cnt
    refine AW.loop (α := List Int × Int) (fun y => ⟨[(1, .ptr 0 1 0 0), (3, .os 1 (f.length + 1)), (7, iav e), (19, iav (List.map Node.iv f).length), (20, iav i), (71, .os 2 way.length), (72, iav way.length), (73, iav y.2)], [⟨24, 1, [[.imm (.sl (f.map Node.iv))]]⟩, ⟨3, 1, y.1.map cI⟩, ⟨3, 1, way.map cI⟩]⟩) (fun y => 0 ≤ y.2 ∧ y.2 ≤ way.length ∧ (y.1.length : Int) = f.length + 1 ∧ atI y.1 0 = 0 ∧ ∀ v, inR f v → atI y.1 v = if v ∈ way.take y.2.toNat then e else atI st1 v) (fun y => (way.length - y.2).toNat) (st1, 0) (Le.cut 3 rfl (by repeat' (first | exact trivial | refine ⟨rfl, ?_⟩)) rfl (by simp only [List.all_cons, List.all_nil, List.all_map, Function.comp_def, cI, cB, iav, bav, AV.sc1, AV.sc0, Bool.and_true, Bool.and_self, all_tt]; try rfl) (Nat.zero_le _)) ⟨by simp, by simp, hW.len, hW.at0, by simp⟩ ?_
    rintro ⟨st2, j⟩ ⟨k0, k1, k2, k3, k4⟩
    simp only at k0 k1 k2 k3 k4
    have hin : ∀ j : Int, 0 ≤ j → j < way.length → inR f (atI way j) := fun j h0 h1 => reach_in (hW.rch _ (atI_mem h0 h1))
    (repeat' (first | ((with_reducible show AL _ _ _ _ _); first | (refine AL.step tabs rfl ?_; try dsimp only [len, List.nil_append, List.cons_append]) | (refine AL.op rfl (OpOK.ari64 rfl rfl rfl rfl rfl (by omega) (by omega)) ?_) | refine AL.ope rfl (OpOK.index_own tabs rfl rfl rfl rfl rfl rfl rfl rfl (by simp) rfl (by omega) (by omega)) rfl ?_ | refine AL.ope rfl (OpOK.load_m tabs rfl rfl rfl rfl (g := cI) rfl (by omega) (by omega) (by omega) rfl) rfl ?_ | refine AL.ope rfl (OpOK.index_own tabs rfl rfl rfl rfl rfl rfl rfl rfl (by simp; omega) rfl (by have := hin j (by omega) (by omega); unfold inR at this; omega) (by have := hin j (by omega) (by omega); unfold inR at this; omega)) rfl ?_ | refine AL.ope rfl (OpOK.store_m tabs rfl rfl rfl rfl rfl (g := cI) (y := e) rfl (by omega) (by have := hin j (by omega) (by omega); unfold inR at this; omega) (by have := hin j (by omega) (by omega); unfold inR at this; omega) rfl rfl rfl rfl) rfl ?_ | refine AL.nil ?_ | (refine AL.gsplitE rfl rfl rfl (fun hc => ?_) (fun hc => ?_) <;> (fail_if_success (exact absurd hc (by decide))) <;> (try simp only [hsx] at hc) <;> (try first | (exfalso; omega) | contradiction | (exfalso; simp [dec_eq] at hc; done))) | (refine AL.op rfl (OpOK.ari64 rfl rfl rfl rfl rfl (by omega) (by omega)) ?_) | (refine AL.op rfl (OpOK.index_map tabs rfl rfl rfl rfl rfl rfl rfl (fun _ => rfl) (by decide) (by omega) (by omega)) ?_)) | refine AW.seq ?_ | refine AW.region ?_ | refine Then.norm ?_ | refine AW.skip ?_ | refine AW.block ?_ | refine InB.norm ?_ | refine AW.condT rfl ?_ | refine AW.condF rfl ?_ | (refine AW.cond rfl (fun hc => ?_) (fun hc => ?_) <;> (try simp only [hsx] at hc) <;> (try first | (exfalso; omega) | contradiction | (exfalso; simp [dec_eq] at hc; done))) | refine AW.ret ?_ | refine AW.exit ?_ | refine Then.ret ?_ | refine Then.exit ?_ | refine InB.ret ?_ | refine InB.here ?_ | refine InB.off rfl ?_ | refine Rnd.ret ?_ | refine Rnd.exit ?_))
    · have hj : j < way.length := by assumption
      have hi := hin j k0 hj
      have hi1 := hi.1
      have hi2 := hi.2
      refine Rnd.norm (st2.set (atI way j).toNat e, j + 1) (Le.cut 3 rfl (by repeat' (first | exact trivial | refine ⟨rfl, ?_⟩)) rfl (by simp only [List.all_cons, List.all_nil, List.all_map, Function.comp_def, cI, cB, iav, bav, AV.sc1, AV.sc0, Bool.and_true, Bool.and_self, all_tt]; try rfl) (Nat.zero_le _)) ⟨by simp only; omega, by simp only; omega, by simpa using k2, ?_, fun v hv => ?_⟩ (by simp only; omega)
      · rw [atI_set _ _ _ _ (by omega) (by omega) (by omega), if_neg (by omega)]; exact k3
      · have := hv.1
        rw [atI_set _ _ _ _ (by omega) (by omega) (by omega), take_next k0 hj]
        by_cases h : v = atI way j
        · simp [h]
        · rw [if_neg h, k4 v hv]; simp [h]
    · rw [take_end hc] at k4
      refine Rnd.norm (st2, i + 1) (Le.cut 2 rfl (by repeat' (first | exact trivial | refine ⟨rfl, ?_⟩)) rfl (by simp only [List.all_cons, List.all_nil, List.all_map, Function.comp_def, cI, cB, iav, bav, AV.sc1, AV.sc0, Bool.and_true, Bool.and_self, all_tt]; try rfl) (Nat.zero_le _)) ⟨by simp only; omega, by simp only; omega, ⟨k2, k3, fun v hv => ?_⟩, fun v hv1 hv2 => ?_⟩ (by simp only; omega)
      · rw [k4 v hv]
        split
        · rename_i hv'
          have := reach_good (hW.rch v hv')
          rcases he with ⟨h1, h2⟩ | ⟨h1, h2⟩
          · exact .inr (.inl ⟨h1, this.2 h2⟩)
          · exact .inr (.inr ⟨h1, fun h => h2 (this.1 h)⟩)
        · rename_i hv'
          rcases hW.was v hv with h | h
          · exact absurd h.1 hv'
          · rw [h.2]; exact hS.ok v hv
      · simp only at hv2 ⊢
        have hv : inR f v := ⟨hv1, by omega⟩
        rw [k4 v hv]
        split
        · rcases he with ⟨h1, h2⟩ | ⟨h1, h2⟩ <;> omega
        · rename_i hv'
          by_cases hvi : v = i + 1
          · rcases hW.fst with ⟨h1, h2⟩ | h
            · rw [hvi, ← h1]; exact hx0 ⟨by omega, by omega⟩
            · rw [hvi] at hv'; exact absurd h hv'
          · rcases hW.was v hv with h | h
            · exact absurd h.1 hv'
            · rw [h.2]; exact hz v hv1 (by omega)
  have hie : i = f.length := by omega
  subst hie
  refine AW.loop (α := List Bool × Int) (fun y => ⟨[(3, .os 1 (f.length + 1)), (10, .os 2 (f.length + 1)), (87, iav ((f.length + 1 : Nat) : Int)), (88, iav y.2)], [⟨24, 1, [[.imm (.sl (f.map Node.iv))]]⟩, ⟨3, 1, st.map cI⟩, ⟨4, 1, y.1.map cB⟩]⟩) (fun y => 0 ≤ y.2 ∧ y.2 ≤ f.length + 1 ∧ (y.1.length : Int) = f.length + 1 ∧ ∀ v, 0 ≤ v → v < y.2 → atI y.1 v = dec (atI st v = 2)) (fun y => (f.length + 1 - y.2).toNat) (List.replicate (f.length + 1) false, 0) (Le.cut 3 (by rw [List.map_replicate]; rfl) (by repeat' (first | exact trivial | refine ⟨rfl, ?_⟩)) rfl (by simp only [List.all_cons, List.all_nil, List.all_map, Function.comp_def, cI, cB, iav, bav, AV.sc1, AV.sc0, Bool.and_true, Bool.and_self, all_tt]; try rfl) (Nat.zero_le _)) ⟨by simp, by simp; omega, by simp, fun v h1 h2 => by simp only at h2; omega⟩ ?_
  rintro ⟨bl, j⟩ ⟨k0, k1, k2, k3⟩
  simp only at k0 k1 k2 k3
  (repeat' (first | ((with_reducible show AL _ _ _ _ _); first | (refine AL.step tabs rfl ?_; try dsimp only [len, List.nil_append, List.cons_append]) | (refine AL.op rfl (OpOK.ari64 rfl rfl rfl rfl rfl (by omega) (by omega)) ?_) | refine AL.ope rfl (OpOK.index_own tabs rfl rfl rfl rfl rfl rfl rfl rfl (by simp; omega) rfl (by omega) (by omega)) rfl ?_ | refine AL.ope rfl (OpOK.load_m tabs rfl rfl rfl rfl (g := cI) rfl (by omega) (by omega) (by omega) rfl) rfl ?_ | refine AL.ope rfl (OpOK.store_m tabs rfl rfl rfl rfl rfl (g := cB) (y := dec (atI st j = 2)) rfl (by omega) (by omega) (by omega) rfl rfl rfl rfl) rfl ?_ | refine AL.nil ?_ | (refine AL.gsplitE rfl rfl rfl (fun hc => ?_) (fun hc => ?_) <;> (fail_if_success (exact absurd hc (by decide))) <;> (try simp only [hsx] at hc) <;> (try first | (exfalso; omega) | contradiction | (exfalso; simp [dec_eq] at hc; done))) | (refine AL.op rfl (OpOK.ari64 rfl rfl rfl rfl rfl (by omega) (by omega)) ?_) | (refine AL.op rfl (OpOK.index_map tabs rfl rfl rfl rfl rfl rfl rfl (fun _ => rfl) (by decide) (by omega) (by omega)) ?_)) | refine AW.seq ?_ | refine AW.region ?_ | refine Then.norm ?_ | refine AW.skip ?_ | refine AW.block ?_ | refine InB.norm ?_ | refine AW.condT rfl ?_ | refine AW.condF rfl ?_ | (refine AW.cond rfl (fun hc => ?_) (fun hc => ?_) <;> (try simp only [hsx] at hc) <;> (try first | (exfalso; omega) | contradiction | (exfalso; simp [dec_eq] at hc; done))) | refine AW.ret ?_ | refine AW.exit ?_ | refine Then.ret ?_ | refine Then.exit ?_ | refine InB.ret ?_ | refine InB.here ?_ | refine InB.off rfl ?_ | refine Rnd.ret ?_ | refine Rnd.exit ?_))
  · refine Rnd.norm (bl.set j.toNat (dec (atI st j = 2)), j + 1) (Le.cut 3 rfl (by repeat' (first | exact trivial | refine ⟨rfl, ?_⟩)) rfl (by simp only [List.all_cons, List.all_nil, List.all_map, Function.comp_def, cI, cB, iav, bav, AV.sc1, AV.sc0, Bool.and_true, Bool.and_self, all_tt]; try rfl) (Nat.zero_le _)) ⟨by simp only; omega, by simp only; omega, by simpa using k2, fun v h1 h2 => ?_⟩ (by simp only; omega)
    simp only at h2 ⊢
    rw [atI_set _ _ _ _ (by omega) (by omega) (by omega)]
    by_cases h : v = j
    · simp [h]
    · rw [if_neg h]; exact k3 v h1 (by omega)
  · have e : bl = endsL f := by
      apply List.ext_getElem?
      intro m
      rcases Nat.lt_or_ge m (f.length + 1) with h | h
      · have e1 := atI_get (xs := bl) (j := (m : Int)) (by omega) (by omega)
        simp only [Int.toNat_natCast] at e1
        rw [e1, k3 m (by omega) (by omega)]
        unfold endsL
        rw [List.getElem?_map, List.getElem?_range h]
        simp only [Option.map_some, Option.some.injEq]
        congr 1
        apply propext
        by_cases h0 : 1 ≤ m
        · have hr : inR f (m : Int) := ⟨by omega, by omega⟩
          have h1 := hz m (by omega) (by omega)
          rcases hS.ok _ hr with h2 | h2 | h2
          · exact absurd h2 h1
          · exact ⟨fun _ => ⟨h0, h2.2⟩, fun _ => h2.1⟩
          · exact ⟨fun h => by omega, fun h => absurd h.2 h2.2⟩
        · have : m = 0 := by omega
          subst this
          have := hS.at0
          constructor
          · intro h
            have : atI st 0 = 2 := h
            omega
          · intro h; omega
      · rw [List.getElem?_eq_none (by omega), List.getElem?_eq_none (by unfold endsL; simp; omega)]
    rw [← e]
    exact RQ.ret rfl (Fz.os rfl (by simp; omega) (by simp [cB, bav]))
end Go.Proofs.YtjjdabihnmilgaaGreat.A
namespace Go.Proofs.YtjjdabihnmilgaaGreat.A
set_option linter.unusedVariables false
set_option linter.unusedSimpArgs false
set_option maxRecDepth 100000
set_option maxHeartbeats 4000000
structure FitN (n : Node) : Prop where
  data : n.data.length ≤ 1000000000
  attrs : n.attrs.length ≤ 1000000000
  kids : n.kids.length ≤ 1000000000
structure Fit (f : List Node) : Prop where
  len : f.length ≤ 1000000000
  node : ∀ n ∈ f, FitN n
theorem fit0 : FitN n0 := ⟨by simp [n0], by simp [n0], by simp [n0]⟩
theorem Fit.at {f : List Node} (h : Fit f) (x : Int) : FitN (nodeAt f x) := by
  unfold nodeAt
  split
  · rename_i hx
    exact h.node _ (atI_mem (by omega) (by omega))
  · exact fit0
theorem Fit.atI {f : List Node} (h : Fit f) (x : Int) (h0 : 0 ≤ x) (h1 : x < f.length) : FitN (atI f x) := h.node _ (atI_mem h0 h1)
def okP (f : List Node) (i : Int) (n : Node) : Prop := madeP n ∧ linksP f (i + 1) n ∧ Good f (i + 1)
noncomputable def chkGo (f : List Node) : List Node → Int → Int × Int
  | [], _ => (0, 0)
  | n :: r, i => if dec (okP f i n) = true then chkGo f r (i + 1) else (5, i + 1)
noncomputable def checkR (f : List Node) : Int × Int := if 4096 < f.length then (5, 0) else chkGo f f 0
theorem ends_at (f : List Node) (i : Int) (h0 : 0 ≤ i) (h1 : i < f.length) : atI (endsL f) (i + 1) = dec (Good f (i + 1)) := by
  have hl : (i + 1).toNat < f.length + 1 := by omega
  unfold atI endsL
  rw [List.getD_eq_getElem?_getD, List.getElem?_map, List.getElem?_range hl]
  simp only [Option.map_some, Option.getD_some]
  congr 1
  apply propext
  rw [show (((i + 1).toNat : Nat) : Int) = i + 1 by omega]
  exact ⟨fun h => h.2, fun h => ⟨by omega, h⟩⟩
theorem check_c (f : List Node) (hf : Fit f) : PureC Tryz.prog 89 [fav f] (.tup [iav (checkR f).1, iav (checkR f).2]) := by
  have hl := hf.len
  have hm : (List.map Node.iv f).length = f.length := List.length_map _
  have hel : ((endsL f).map fun b => [IV.bool b]).length = f.length + 1 := by unfold endsL; simp
  have hel' : (endsL f).length = f.length + 1 := by unfold endsL; simp
  refine PureC.mk tabs Tryz.func89 42 [.tmp 2, .tmp 3] rfl rfl rfl rfl rfl ?_; intro w0 X
  (repeat' (first | ((with_reducible show AL _ _ _ _ _); first | (refine AL.step tabs rfl ?_; try dsimp only [len, List.nil_append, List.cons_append]) | refine AL.op rfl (OpOK.call rfl rfl rfl rfl (ends_c f hl) rfl) ?_ | refine AL.nil ?_ | (refine AL.gsplitE rfl rfl rfl (fun hc => ?_) (fun hc => ?_) <;> (fail_if_success (exact absurd hc (by decide))) <;> (try simp only [hsx] at hc) <;> (try first | (exfalso; omega) | contradiction | (exfalso; simp [dec_eq] at hc; done))) | (refine AL.op rfl (OpOK.ari64 rfl rfl rfl rfl rfl (by omega) (by omega)) ?_) | (refine AL.op rfl (OpOK.index_map tabs rfl rfl rfl rfl rfl rfl rfl (fun _ => rfl) (by decide) (by omega) (by omega)) ?_)) | refine AW.seq ?_ | refine AW.region ?_ | refine Then.norm ?_ | refine AW.skip ?_ | refine AW.block ?_ | refine InB.norm ?_ | refine AW.condT rfl ?_ | refine AW.condF rfl ?_ | (refine AW.cond rfl (fun hc => ?_) (fun hc => ?_) <;> (try simp only [hsx] at hc) <;> (try first | (exfalso; omega) | contradiction | (exfalso; simp [dec_eq] at hc; done))) | refine AW.ret ?_ | refine AW.exit ?_ | refine Then.ret ?_ | refine Then.exit ?_ | refine InB.ret ?_ | refine InB.here ?_ | refine InB.off rfl ?_ | refine Rnd.ret ?_ | refine Rnd.exit ?_))
  · rw [show checkR f = (5, 0) by unfold checkR; rw [if_pos (by omega)]]
    exact RQ.fin rfl rfl rfl
  rw [show checkR f = chkGo f f 0 by unfold checkR; rw [if_neg (by omega)]]
  refine AW.loop (α := Int) (fun i => ⟨[(1, .ptr 0 1 0 0), (4, .imm (.sl ((endsL f).map fun b => [.bool b]))), (14, .imm (.sl (f.map Node.iv))), (15, iav (List.map Node.iv f).length), (16, iav i)], [⟨24, 1, [[.imm (.sl (f.map Node.iv))]]⟩]⟩) (fun i => 0 ≤ i ∧ i ≤ f.length ∧ chkGo f (f.drop i.toNat) i = chkGo f f 0) (fun i => (f.length - i).toNat) 0 (Le.cut 1 rfl (by repeat' (first | exact trivial | refine ⟨rfl, ?_⟩)) rfl rfl (Nat.zero_le _)) ⟨by omega, by omega, rfl⟩ ?_
  intro i ⟨h0, h1, h2⟩
  (repeat' (first | ((with_reducible show AL _ _ _ _ _); first | (refine AL.step tabs rfl ?_; try dsimp only [len, List.nil_append, List.cons_append]) | refine AL.op rfl (OpOK.call rfl rfl rfl rfl (made_c (atI f i) (hf.atI i (by omega) (by omega)).data (hf.atI i (by omega) (by omega)).attrs (hf.atI i (by omega) (by omega)).kids) rfl) ?_ | refine AL.op rfl (OpOK.call rfl rfl rfl rfl (by have := links_c f (i + 1) hl (fun h => (hf.at h).kids) (by rw [show i + 1 - 1 = i by omega]; exact (hf.atI i (by omega) (by omega)).kids) (by omega) (by omega); rw [show i + 1 - 1 = i by omega] at this; exact this) rfl) ?_ | refine AL.nil ?_ | (refine AL.gsplitE rfl rfl rfl (fun hc => ?_) (fun hc => ?_) <;> (fail_if_success (exact absurd hc (by decide))) <;> (try simp only [hsx] at hc) <;> (try first | (exfalso; omega) | contradiction | (exfalso; simp [dec_eq] at hc; done))) | (refine AL.op rfl (OpOK.ari64 rfl rfl rfl rfl rfl (by omega) (by omega)) ?_) | (refine AL.op rfl (OpOK.index_map tabs rfl rfl rfl rfl rfl rfl rfl (fun _ => rfl) (by decide) (by omega) (by omega)) ?_)) | refine AW.seq ?_ | refine AW.region ?_ | refine Then.norm ?_ | refine AW.skip ?_ | refine AW.block ?_ | refine InB.norm ?_ | refine AW.condT rfl ?_ | refine AW.condF rfl ?_ | (refine AW.cond rfl (fun hc => ?_) (fun hc => ?_) <;> (try simp only [hsx] at hc) <;> (try first | (exfalso; omega) | contradiction | (exfalso; simp [dec_eq] at hc; done))) | refine AW.ret ?_ | refine AW.exit ?_ | refine Then.ret ?_ | refine Then.exit ?_ | refine InB.ret ?_ | refine InB.here ?_ | refine InB.off rfl ?_ | refine Rnd.ret ?_ | refine Rnd.exit ?_))
  all_goals first
    | (have hn : ¬ okP f i (atI f i) := by
         intro hk
         obtain ⟨a1, a2, a3⟩ := hk
         first | exact hc a1 | exact hc a2 | (rw [ends_at f i h0 (by assumption), dec_false] at hc; exact hc a3)
       rw [← h2, drop_next h0 (by assumption), chkGo, if_neg (by rw [dec_true]; exact hn)]
       exact RQ.fin rfl rfl rfl)
    | (rw [ends_at f i h0 (by assumption), dec_true] at hc
       refine Rnd.norm (i + 1) (Le.cut 1 rfl (by repeat' (first | exact trivial | refine ⟨rfl, ?_⟩)) rfl rfl (Nat.zero_le _)) ⟨by omega, by omega, ?_⟩ (by omega)
       rw [← h2, drop_next h0 (by assumption), chkGo, if_pos (by rw [dec_true]; exact ⟨by assumption, by assumption, hc⟩)])
    | (rw [← h2, drop_end hc]; exact RQ.fin rfl rfl rfl)
def rightP (f : List Node) : Prop := f.length ≤ 4096 ∧ ∀ i : Int, 0 ≤ i → i < f.length → okP f i (atI f i)
theorem chkGo_zero (f : List Node) : ∀ (l : List Node) (i : Int), ((chkGo f l i).1 = 0 ∨ (chkGo f l i).1 = 5) ∧ ((chkGo f l i).1 = 0 ↔ ∀ j : Int, 0 ≤ j → j < l.length → okP f (i + j) (atI l j))
  | [], i => by simp [chkGo]; intro j h0 h1; omega
  | n :: r, i => by
    obtain ⟨h1, h2⟩ := chkGo_zero f r (i + 1)
    rw [chkGo]
    have at0 : atI (n :: r) 0 = n := rfl
    by_cases h : okP f i n
    · rw [if_pos (by rw [dec_true]; exact h)]
      refine ⟨h1, h2.trans ⟨fun hj j h0 h1 => ?_, fun hj j h0 h1 => ?_⟩⟩
      · by_cases e : j = 0
        · subst e; rw [Int.add_zero, at0]; exact h
        · have := hj (j - 1) (by omega) (by simp at h1; omega)
          rw [show i + 1 + (j - 1) = i + j by omega] at this
          rw [show atI (n :: r) j = atI r (j - 1) by unfold atI; rw [show j.toNat = (j - 1).toNat + 1 by omega]; rfl]
          exact this
      · have := hj (j + 1) (by omega) (by simp; omega)
        rw [show i + (j + 1) = i + 1 + j by omega] at this
        rw [show atI (n :: r) (j + 1) = atI r j by unfold atI; rw [show (j + 1).toNat = j.toNat + 1 by omega]; rfl] at this
        exact this
    · rw [if_neg (by rw [dec_true]; exact h)]
      refine ⟨.inr rfl, ⟨fun h5 => by simp at h5, fun hj => ?_⟩⟩
      have := hj 0 (by omega) (by simp)
      rw [Int.add_zero, at0] at this
      exact absurd this h
theorem checkR_zero (f : List Node) : ((checkR f).1 = 0 ∨ (checkR f).1 = 5) ∧ ((checkR f).1 = 0 ↔ rightP f) := by
  unfold checkR rightP
  split
  · rename_i h
    refine ⟨.inr rfl, ⟨fun h5 => by simp at h5, fun h6 => ?_⟩⟩
    omega
  · rename_i h
    obtain ⟨h1, h2⟩ := chkGo_zero f f 0
    refine ⟨h1, h2.trans ?_⟩
    simp only [Int.zero_add]
    exact ⟨fun h3 => ⟨by omega, h3⟩, fun h3 => h3.2⟩
theorem checkR_fst (f : List Node) : (checkR f).1 = if dec (rightP f) = true then 0 else 5 := by
  obtain ⟨h1, h2⟩ := checkR_zero f
  by_cases h : rightP f
  · rw [if_pos (by rw [dec_true]; exact h)]; exact h2.2 h
  · rw [if_neg (by rw [dec_true]; exact h)]
    rcases h1 with h1 | h1
    · exact absurd (h2.1 h1) h
    · exact h1
theorem right_c (f : List Node) (hf : Fit f) : PureC Tryz.prog 43 [fav f] (bav (dec (rightP f))) := by
  rw [show rightP f = ((checkR f).1 = 0) by rw [(checkR_zero f).2]]
  refine PureC.mk tabs Tryz.func43 12 [.tmp 2] rfl rfl rfl rfl rfl ?_; intro w0 X
  (repeat' (first | ((with_reducible show AL _ _ _ _ _); first | (refine AL.step tabs rfl ?_; try dsimp only [len, List.nil_append, List.cons_append]) | refine AL.op rfl (OpOK.call rfl rfl rfl rfl (check_c f hf) rfl) ?_ | refine AL.nil ?_) | refine AW.seq ?_ | refine AW.region ?_ | refine Then.norm ?_ | refine AW.skip ?_ | refine AW.ret ?_ | refine Then.ret ?_))
  all_goals exact RQ.fin rfl rfl rfl
noncomputable def faultR (f : List Node) (l : List Int) : Int := if dec (rightP f) = true then (if (l.all fun h => inB f h) = true then 0 else 2) else 5
theorem fault_c (f : List Node) (l : List Int) (hf : Fit f) (hl : l.length ≤ 1000000000) : PureC Tryz.prog 46 [fav f, .imm (.sl (l.map i64))] (iav (faultR f l)) := by
  have hfl := hf.len
  have hck := checkR_fst f
  have hz := checkR_zero f
  refine PureC.mk tabs Tryz.func46 33 [.tmp 4] rfl rfl rfl rfl rfl ?_; intro w0 X
  (repeat' (first | ((with_reducible show AL _ _ _ _ _); first | (refine AL.step tabs rfl ?_; try dsimp only [len, List.nil_append, List.cons_append]) | refine AL.op rfl (OpOK.call rfl rfl rfl rfl (check_c f hf) rfl) ?_ | refine AL.nil ?_ | (refine AL.gsplitE rfl rfl rfl (fun hc => ?_) (fun hc => ?_) <;> (fail_if_success (exact absurd hc (by decide))) <;> (try simp only [hsx] at hc) <;> (try first | (exfalso; omega) | contradiction | (exfalso; simp [dec_eq] at hc; done))) | (refine AL.op rfl (OpOK.ari64 rfl rfl rfl rfl rfl (by omega) (by omega)) ?_) | (refine AL.op rfl (OpOK.index_map tabs rfl rfl rfl rfl rfl rfl rfl (fun _ => rfl) (by decide) (by omega) (by omega)) ?_)) | refine AW.seq ?_ | refine AW.region ?_ | refine Then.norm ?_ | refine AW.skip ?_ | refine AW.block ?_ | refine InB.norm ?_ | refine AW.condT rfl ?_ | refine AW.condF rfl ?_ | (refine AW.cond rfl (fun hc => ?_) (fun hc => ?_) <;> (try simp only [hsx] at hc) <;> (try first | (exfalso; omega) | contradiction | (exfalso; simp [dec_eq] at hc; done))) | refine AW.ret ?_ | refine AW.exit ?_ | refine Then.ret ?_ | refine Then.exit ?_ | refine InB.ret ?_ | refine InB.here ?_ | refine InB.off rfl ?_ | refine Rnd.ret ?_ | refine Rnd.exit ?_))
  · have hr : ¬ rightP f := fun h => hc (hz.2.2 h)
    unfold faultR
    rw [if_neg (by rw [dec_true]; exact hr)]
    rw [hz.1.resolve_left hc]
    exact RQ.fin rfl rfl rfl
  have hr : rightP f := hz.2.1 hc
  unfold faultR
  rw [if_pos (by rw [dec_true]; exact hr)]
  refine AW.loop (α := Int) (fun i => ⟨[(2, .ptr 0 1 0 0), (17, .imm (.sl (l.map i64))), (18, iav (l.map i64).length), (19, iav i)], [⟨24, 1, [[.imm (.sl (f.map Node.iv))]]⟩]⟩) (fun i => 0 ≤ i ∧ i ≤ l.length ∧ ((l.take i.toNat).all fun h => inB f h) = true) (fun i => (l.length - i).toNat) 0 (Le.cut 1 rfl (by repeat' (first | exact trivial | refine ⟨rfl, ?_⟩)) rfl rfl (Nat.zero_le _)) ⟨by omega, by omega, rfl⟩ ?_
  intro i ⟨h0, h1, h2⟩
  (repeat' (first | ((with_reducible show AL _ _ _ _ _); first | (refine AL.step tabs rfl ?_; try dsimp only [len, List.nil_append, List.cons_append]) | refine AL.nil ?_ | (refine AL.gsplitE rfl rfl rfl (fun hc => ?_) (fun hc => ?_) <;> (fail_if_success (exact absurd hc (by decide))) <;> (try simp only [hsx] at hc) <;> (try first | (exfalso; omega) | contradiction | (exfalso; simp [dec_eq] at hc; done))) | (refine AL.op rfl (OpOK.ari64 rfl rfl rfl rfl rfl (by omega) (by omega)) ?_) | (refine AL.op rfl (OpOK.index_map tabs rfl rfl rfl rfl rfl rfl rfl (fun _ => rfl) (by decide) (by omega) (by omega)) ?_)) | refine AW.seq ?_ | refine AW.region ?_ | refine Then.norm ?_ | refine AW.skip ?_ | refine AW.block ?_ | refine InB.norm ?_ | refine AW.condT rfl ?_ | refine AW.condF rfl ?_ | (refine AW.cond rfl (fun hc => ?_) (fun hc => ?_) <;> (try simp only [hsx] at hc) <;> (try first | (exfalso; omega) | contradiction | (exfalso; simp [dec_eq] at hc; done))) | refine AW.ret ?_ | refine AW.exit ?_ | refine Then.ret ?_ | refine Then.exit ?_ | refine InB.ret ?_ | refine InB.here ?_ | refine InB.off rfl ?_ | refine Rnd.ret ?_ | refine Rnd.exit ?_))
  all_goals first
    | (have hn : (l.all fun h => inB f h) = false := by
         rw [List.all_eq_false]
         exact ⟨_, atI_mem h0 (by assumption), by simp only [inB, decide_eq_true_eq]; omega⟩
       rw [hn]
       exact RQ.fin rfl rfl rfl)
    | (refine Rnd.norm (i + 1) (Le.cut 1 rfl (by repeat' (first | exact trivial | refine ⟨rfl, ?_⟩)) rfl rfl (Nat.zero_le _)) ⟨by omega, by omega, ?_⟩ (by omega)
       rw [take_next h0 (by assumption), List.all_append, h2]
       simp only [List.all_cons, List.all_nil, Bool.and_true, Bool.true_and, inB, decide_eq_true_eq]
       omega)
    | (rw [take_end hc] at h2; rw [h2]; exact RQ.fin rfl rfl rfl)
theorem treeAt_c (f : List Node) (h : Int) (hl : f.length ≤ 1000000000) : PureC Tryz.prog 57 [fav f, iav h] (nodeAt f h).av := by
  unfold nodeAt
  refine PureC.mk tabs Tryz.func57 21 [.cell 4 81] rfl rfl rfl rfl rfl ?_; intro w0 X
  (repeat' (first | ((with_reducible show AL _ _ _ _ _); first | (refine AL.step tabs rfl ?_; try dsimp only [len, List.nil_append, List.cons_append]) | refine AL.nil ?_ | (refine AL.gsplitE rfl rfl rfl (fun hc => ?_) (fun hc => ?_) <;> (fail_if_success (exact absurd hc (by decide))) <;> (try simp only [hsx] at hc) <;> (try first | (exfalso; omega) | contradiction | (exfalso; simp [dec_eq] at hc; done))) | (refine AL.op rfl (OpOK.ari64 rfl rfl rfl rfl rfl (by omega) (by omega)) ?_) | (refine AL.op rfl (OpOK.index_map tabs rfl rfl rfl rfl rfl rfl rfl (fun _ => rfl) (by decide) (by omega) (by omega)) ?_)) | refine AW.seq ?_ | refine AW.region ?_ | refine Then.norm ?_ | refine AW.skip ?_ | refine AW.condT rfl ?_ | refine AW.condF rfl ?_ | (refine AW.cond rfl (fun hc => ?_) (fun hc => ?_) <;> (try simp only [hsx] at hc) <;> (try first | (exfalso; omega) | contradiction | (exfalso; simp [dec_eq] at hc; done))) | refine AW.ret ?_ | refine Then.ret ?_))
  all_goals first
    | (rw [if_neg (by omega)]; exact RQ.fin rfl rfl rfl)
    | (rw [if_pos (by omega)]; exact RQ.fin rfl rfl rfl)
def textB (k : Int) : Prop := k = 3 ∨ k = 4
theorem text_c (k : Int) : PureC Tryz.prog 119 [kav k] (bav (dec (textB k))) := by
  refine PureC.mk tabs Tryz.func119 9 [.tmp 2] rfl rfl rfl rfl rfl ?_; intro w0 X
  (repeat' (first | ((with_reducible show AL _ _ _ _ _); first | (refine AL.step tabs rfl ?_; try dsimp only [len, List.nil_append, List.cons_append]) | refine AL.nil ?_ | (refine AL.gsplitE rfl rfl rfl (fun hc => ?_) (fun hc => ?_) <;> (fail_if_success (exact absurd hc (by decide))) <;> (try simp only [hsx] at hc) <;> (try first | (exfalso; omega) | contradiction | (exfalso; simp [dec_eq] at hc; done)))) | refine AW.seq ?_ | refine AW.region ?_ | refine Then.norm ?_ | refine AW.skip ?_ | refine AW.ret ?_ | refine Then.ret ?_))
  all_goals (refine RQ.fin rfl rfl (congrArg bav ?_); rw [Bool.eq_iff_iff]; simp only [textB, dec_true]; grind)
def dataB (k : Int) : Prop := textB k ∨ k = 8 ∨ k = 7
theorem data_c (k : Int) : PureC Tryz.prog 118 [kav k] (bav (dec (dataB k))) := by
  refine PureC.mk tabs Tryz.func118 13 [.tmp 2] rfl rfl rfl rfl rfl ?_; intro w0 X
  (repeat' (first | ((with_reducible show AL _ _ _ _ _); first | (refine AL.step tabs rfl ?_; try dsimp only [len, List.nil_append, List.cons_append]) | refine AL.op rfl (OpOK.call rfl rfl rfl rfl (text_c k) rfl) ?_ | refine AL.nil ?_ | (refine AL.gsplitE rfl rfl rfl (fun hc => ?_) (fun hc => ?_) <;> (fail_if_success (exact absurd hc (by decide))) <;> (try simp only [hsx] at hc) <;> (try first | (exfalso; omega) | contradiction | (exfalso; simp [dec_eq] at hc; done)))) | refine AW.seq ?_ | refine AW.region ?_ | refine Then.norm ?_ | refine AW.skip ?_ | refine AW.ret ?_ | refine Then.ret ?_))
  all_goals (refine RQ.fin rfl rfl (congrArg bav ?_); rw [Bool.eq_iff_iff]; simp only [dataB, dec_true]; grind)
end Go.Proofs.YtjjdabihnmilgaaGreat.A
