/- Contracts: chardata.Whole. -/
import Derived.Test.YtmhejcnaanocpaaGreatCDOneGrpAW
import Derived.Test.YtmhejcnaanocpaaGreatCDOneGrpAS
import Derived.Test.YtmhejcnaanocpaaGreatProg
namespace Go.Proofs.YtmhejcnaanocpaaGreat.A
set_option linter.unusedVariables false
set_option linter.unusedSimpArgs false
set_option maxRecDepth 100000
set_option maxHeartbeats 4000000
noncomputable def txt (f : List Node) (x : Int) : Bool := dec (textB (nodeAt f x).kind)
theorem cl59_c (f : List Node) (x : Int) (hl : f.length ≤ 1000000000) : GenC Tryz.prog 59 [⟨24, 1, [[.imm (.sl (f.map Node.iv))]]⟩] [iav x, .ptr 0 1 0 0] (bav (txt f x)) [⟨24, 1, [[.imm (.sl (f.map Node.iv))]]⟩] := by
  have c1 := treeAt_c f x hl
  have c2 := text_c (nodeAt f x).kind
  unfold txt
  refine GenC.mk tabs Tryz.func59 9 [.tmp 3] rfl rfl rfl rfl rfl ?_; intro w0 X γ κ
  (repeat' (first | ((with_reducible show AL _ _ _ _ _); first | (refine AL.step tabs rfl ?_; try dsimp only [len, List.nil_append, List.cons_append]) | refine AL.op rfl (OpOK.call rfl rfl rfl rfl c1 rfl) ?_ | refine AL.op rfl (OpOK.call rfl rfl rfl rfl c2 rfl) ?_ | refine AL.nil ?_) | refine AW.seq ?_ | refine AW.region ?_ | refine Then.norm ?_ | refine AW.skip ?_ | refine AW.ret ?_ | refine Then.ret ?_))
  exact RG.ret 1 rfl rfl rfl rfl rfl (by simp [cxG])
theorem txt0 (f : List Node) : txt f 0 = false := by
  unfold txt nodeAt
  rw [if_neg (by omega), dec_false]
  simp [textB, n0]
-- places among kids
theorem idxGo_at : ∀ (l : List Int) (k : Int) (j : Nat), l.Nodup → j < l.length → idxGo l (l.getD j default) k = k + j
  | [], _, _, _, h => by simp at h
  | y :: l, k, 0, _, _ => by simp [idxGo]
  | y :: l, k, j + 1, hn, h => by
    rw [List.nodup_cons] at hn
    have h' : j < l.length := by simpa using h
    have hm : l.getD j default ∈ l := by
      rw [List.getD_eq_getElem?_getD, List.getElem?_eq_getElem h']
      exact List.getElem_mem h'
    simp only [List.getD_cons_succ]
    unfold idxGo
    have hne : ¬ l.getD j default = y := fun e => hn.1 (e ▸ hm)
    rw [if_neg hne, idxGo_at l (k + 1) j hn.2 h']
    omega
theorem idx_at {l : List Int} (hn : l.Nodup) {j : Int} (h0 : 0 ≤ j) (h1 : j < l.length) : idx l (atI l j) = j := by
  have := idxGo_at l 0 j.toNat hn (by omega)
  unfold idx atI
  rw [this]
  omega
theorem mem_atI {l : List Int} {x : Int} (h : x ∈ l) : ∃ j : Int, 0 ≤ j ∧ j < l.length ∧ atI l j = x := by
  obtain ⟨j, hj, e⟩ := List.getElem_of_mem h
  refine ⟨j, by omega, by omega, ?_⟩
  unfold atI
  rw [Int.toNat_natCast, List.getD_eq_getElem?_getD, List.getElem?_eq_getElem hj]
  exact e
theorem right_mem {f : List Node} (hr : rightP f) {h : Int} (hh : inR f h) (hp : (nodeAt f h).parent ≠ 0) : inR f (nodeAt f h).parent ∧ h ∈ (nodeAt f (nodeAt f h).parent).kids := by
  have hl := (right_node hr hh).2.1.1
  rcases hl with h0 | ⟨h1, h2⟩
  · exact absurd h0 hp
  · refine ⟨inB_R.1 h1, ?_⟩
    have : 0 < cntB (nodeAt f (nodeAt f h).parent).kids h := by omega
    unfold cntB at this
    rw [List.countP_pos_iff] at this
    obtain ⟨a, ha, e⟩ := this
    have : a = h := by simpa using e
    exact this ▸ ha
theorem right_par {f : List Node} (hr : rightP f) {q k : Int} (hq : inR f q) (hk : k ∈ (nodeAt f q).kids) : inR f k ∧ (nodeAt f k).parent = q := by
  obtain ⟨h1, h2⟩ := kidsGo_mem _ _ (right_kidsB hr hq).1 k hk
  exact ⟨inB_R.1 h1, h2⟩
theorem right_dup {f : List Node} (hr : rightP f) {q : Int} (hq : inR f q) : (nodeAt f q).kids.Nodup := (kidsGo_nodup _ _ (right_kidsB hr hq).1).1
/-- the one b places on, or none. -/
def offI (l : List Int) (j : Int) : Int := if j < 0 ∨ (l.length : Int) ≤ j then 0 else atI l j
theorem beside_at {f : List Node} (hr : rightP f) {q : Int} (hq : inR f q) {j b : Int} (h0 : 0 ≤ j) (h1 : j < (nodeAt f q).kids.length) : besideP f (atI (nodeAt f q).kids j) b = offI (nodeAt f q).kids (j + b) := by
  have hm := right_par hr hq (atI_mem h0 h1)
  unfold besideP offI
  rw [hm.2, if_neg (by have := hq.1; omega), idx_at (right_dup hr hq) h0 h1]
/-- where the texts beside one another begin. -/
def leftN (t : Int → Bool) (l : List Int) : Nat → Nat
  | 0 => 0
  | j + 1 => if t (atI l j) = true then leftN t l j else j + 1
def runGo (f : List Node) (t : Int → Bool) : List Int → List Int
  | [] => []
  | x :: r => if t x = true then (nodeAt f x).data ++ runGo f t r else []
noncomputable def wholeP (f : List Node) (h : Int) : List Int :=
  if (nodeAt f h).parent = 0 then (nodeAt f h).data else
    runGo f (txt f) ((nodeAt f (nodeAt f h).parent).kids.drop (leftN (txt f) (nodeAt f (nodeAt f h).parent).kids (idx (nodeAt f (nodeAt f h).parent).kids h).toNat))
theorem cf_right {f : List Node} {h : Int} {b : Bool} (he : cfP f h b = 0) : rightP f ∧ inR f h ∧ (b = true → textB (nodeAt f h).kind) ∧ dataB (nodeAt f h).kind := by
  unfold cfP at he
  split at he
  · rename_i h1; exact absurd he h1
  · rename_i h1
    have h1 : faultR f [h] = 0 := by simpa using h1
    unfold faultR at h1
    split at h1
    · rename_i hr
      rw [dec_true] at hr
      split at h1
      · rename_i hi
        split at he
        · cases he
        · rename_i h2
          refine ⟨hr, inB_R.1 (by simpa using hi), fun hb => ?_, ?_⟩
          · apply Classical.byContradiction
            intro h3
            exact h2 (.inr ⟨hb, by rw [dec_false]; exact h3⟩)
          · apply Classical.byContradiction
            intro h3
            exact h2 (.inl (by rw [dec_false]; exact h3))
      · cases h1
    · cases h1
theorem srcU {C : Cx} {s : St} {tx : TypeId} {y : Operand} (hT : TsOK C.P tab) {i : TI} (hi : look tab tx = some i) {e : TypeId} (hk : i.kd = .sl e) (d : List Int) (hy : s.ev y = some (.imm (.sl (d.map u16)))) : SrcA C s ti55 tx y (d.map cU) := by
  have := SrcA.imm (ie := ti55) hT hi hk hy (u16_len d)
  rw [List.map_map] at this
  exact this
theorem cU_sc (l : List Int) (k : Nat) : (l.map cU).all (fun r => r.all (AV.sc1 k)) = true := by
  rw [List.all_map, List.all_eq_true]
  exact fun n _ => rfl
theorem runGo_next (f : List Node) (t : Int → Bool) (l : List Int) {k : Int} (h0 : 0 ≤ k) (h1 : k < l.length) : runGo f t (l.drop k.toNat) = if t (atI l k) = true then (nodeAt f (atI l k)).data ++ runGo f t (l.drop (k + 1).toNat) else [] := by
  rw [drop_next h0 h1]
  rfl
theorem whole1_c (f : List Node) (h : Int) (hf : Fit f) (he : cfP f h true = 0) (hp : (nodeAt f h).parent ≠ 0) : PureC Tryz.prog 18 [fav f, iav h] (.tup [.imm (.sl ((wholeP f h).map u16)), iav 0]) := by
  have hl := hf.len
  obtain ⟨hr, hin, ht, _⟩ := cf_right he
  have c1 := cfault_c f h true hf
  rw [he] at c1
  obtain ⟨hq, hm⟩ := right_mem hr hin hp
  obtain ⟨w, hw⟩ : ∃ w, w = wholeP f h := ⟨_, rfl⟩
  have hwE : wholeP f h = runGo f (txt f) ((nodeAt f (nodeAt f h).parent).kids.drop (leftN (txt f) (nodeAt f (nodeAt f h).parent).kids (idx (nodeAt f (nodeAt f h).parent).kids h).toNat)) := by unfold wholeP; rw [if_neg hp]
  rw [← hw] at hwE ⊢
  obtain ⟨q, hqe⟩ : ∃ q, q = (nodeAt f h).parent := ⟨_, rfl⟩
  rw [← hqe] at hq hm hp hwE
  have hat := @beside_at f hr q hq
  have hpar : ∀ j : Int, 0 ≤ j → j < (nodeAt f q).kids.length → (nodeAt f (atI (nodeAt f q).kids j)).parent = q := fun j j0 j1 => (right_par hr hq (atI_mem j0 j1)).2
  have hfew := right_few hr q
  have hnd := right_dup hr hq
  obtain ⟨l, hle⟩ : ∃ l, l = (nodeAt f q).kids := ⟨_, rfl⟩
  rw [← hle] at hat hpar hfew hnd hm hwE
  obtain ⟨i, i0, i1, hi⟩ := mem_atI hm
  rw [← hi, idx_at hnd i0 i1] at hwE
  have c2 := beside_c f h (-1) hf (by omega) (by omega)
  rw [← hi, hat (b := -1) i0 i1, hi] at c2
  refine PureC.mk tabs Tryz.func18 49 [.tmp 4, .tmp 5] rfl rfl rfl rfl rfl ?_; intro w0 X
  (repeat' (first | ((with_reducible show AL _ _ _ _ _); first | (refine AL.step tabs rfl ?_; try dsimp only [len, List.nil_append, List.cons_append]) | refine AL.op rfl (OpOK.call rfl rfl rfl rfl c1 rfl) ?_ | refine AL.op rfl (OpOK.call rfl rfl rfl rfl c2 rfl) ?_ | refine AL.nil ?_) | refine AW.seq ?_ | refine AW.region ?_ | refine Then.norm ?_ | refine AW.skip ?_ | refine AW.block ?_ | refine InB.norm ?_ | refine AW.condT rfl ?_ | refine AW.condF rfl ?_ | (refine AW.cond rfl (fun hc => ?_) (fun hc => ?_) <;> (try simp only [hsx] at hc) <;> (try first | (exfalso; omega) | contradiction | (exfalso; simp [dec_eq] at hc; done))) | refine AW.ret ?_ | refine AW.exit ?_ | refine Then.ret ?_ | refine Then.exit ?_ | refine InB.ret ?_ | refine InB.here ?_ | refine InB.off rfl ?_ | refine Rnd.ret ?_ | refine Rnd.exit ?_))
  refine AW.loop (α := Int) (fun j => ⟨[(2, .ptr 0 1 0 0), (7, .fn 59 [.ptr 0 1 0 0]), (8, iav (atI l j)), (9, iav (offI l (j + -1)))], [⟨24, 1, [[.imm (.sl (f.map Node.iv))]]⟩]⟩) (fun j => 0 ≤ j ∧ j ≤ i ∧ leftN (txt f) l j.toNat = leftN (txt f) l i.toNat) (fun j => j.toNat) i (Le.cut 1 rfl ⟨rfl, rfl, by rw [hi]; rfl, rfl, trivial⟩ rfl rfl (Nat.zero_le _)) ⟨i0, Int.le_refl _, rfl⟩ ?_
  rintro j ⟨j0, j1, hj⟩
  have d0 := cl59_c f (offI l (j + -1)) hl
  obtain ⟨b, hb⟩ : ∃ b, b = txt f (offI l (j + -1)) := ⟨_, rfl⟩
  rw [← hb] at d0
  have c3 := beside_c f (offI l (j + -1)) (-1) hf (by omega) (by omega)
  (repeat' (first | ((with_reducible show AL _ _ _ _ _); first | (refine AL.step tabs rfl ?_; try dsimp only [len, List.nil_append, List.cons_append]) | refine AL.callG [0] 1 rfl rfl rfl rfl (caps := [.ptr 0 1 0 0]) rfl rfl d0 rfl rfl rfl rfl rfl rfl rfl rfl (hpA := [⟨24, 1, [[.imm (.sl (f.map Node.iv))]]⟩]) rfl (r' := bav b) rfl rfl ?_; try dsimp only [setAll, List.drop_succ_cons, List.drop_zero, List.drop_nil, List.set_cons_succ, List.set_cons_zero, List.cons_append, List.nil_append, List.append_nil, len, Nat.reduceAdd] | refine AL.op rfl (OpOK.call rfl rfl rfl rfl c3 rfl) ?_ | refine AL.nil ?_) | refine AW.seq ?_ | refine AW.region ?_ | refine Then.norm ?_ | refine AW.skip ?_ | refine AW.block ?_ | refine InB.norm ?_ | refine AW.condT rfl ?_ | refine AW.condF rfl ?_ | (refine AW.cond rfl (fun hc => ?_) (fun hc => ?_) <;> (try simp only [hsx] at hc) <;> (try first | (exfalso; omega) | contradiction | (exfalso; simp [dec_eq] at hc; done))) | refine AW.ret ?_ | refine AW.exit ?_ | refine Then.ret ?_ | refine Then.exit ?_ | refine InB.ret ?_ | refine InB.here ?_ | refine InB.off rfl ?_ | refine Rnd.ret ?_ | refine Rnd.exit ?_))
  · have hj0 : 0 ≤ j - 1 := by
      apply Classical.byContradiction
      intro h'
      rw [show offI l (j + -1) = 0 by unfold offI; rw [if_pos (by omega)], txt0, hc] at hb
      cases hb
    have e1 : offI l (j + -1) = atI l (j - 1) := by unfold offI; rw [if_neg (by omega)]; rfl
    have e2 : besideP f (offI l (j + -1)) (-1) = offI l (j - 1 + -1) := by rw [e1]; exact hat hj0 (by omega)
    refine Rnd.norm (j - 1) (Le.cut 1 rfl ⟨rfl, rfl, by rw [← e1]; rfl, by rw [← e2]; rfl, trivial⟩ rfl rfl (Nat.zero_le _)) ⟨hj0, by omega, ?_⟩ (by omega)
    rw [← hj, show j.toNat = (j - 1).toNat + 1 by omega]
    rw [leftN, if_pos (by rw [show (((j - 1).toNat : Nat) : Int) = j - 1 by omega, ← e1, ← hb]; exact hc)]
  · have hlj : leftN (txt f) l j.toNat = j.toNat := by
      by_cases hj0 : j = 0
      · subst hj0; rfl
      · rw [show j.toNat = (j - 1).toNat + 1 by omega]
        rw [leftN, if_neg ?_]
        rw [show (((j - 1).toNat : Nat) : Int) = j - 1 by omega]
        have e1 : offI l (j + -1) = atI l (j - 1) := by unfold offI; rw [if_neg (by omega)]; rfl
        rw [← e1, ← hb, hc]
        exact Bool.false_ne_true
    refine AW.weak (Le.fresh 10 55 1 rfl rfl) ?_
    refine AW.loop (α := Int × List Int) (fun x => ⟨[(2, .ptr 0 1 0 0), (7, .fn 59 [.ptr 0 1 0 0]), (10, .os 1 x.2.length), (11, iav (offI l x.1))], [⟨24, 1, [[.imm (.sl (f.map Node.iv))]]⟩, ⟨55, 1, x.2.map cU⟩]⟩) (fun x => 0 ≤ x.1 ∧ x.1 ≤ l.length ∧ x.2 ++ runGo f (txt f) (l.drop x.1.toNat) = w ∧ (x.2.length : Int) ≤ x.1 * 1000000000) (fun x => (l.length - x.1).toNat) (j, []) (Le.cut 2 rfl ⟨rfl, rfl, rfl, by rw [show offI l j = atI l j by unfold offI; rw [if_neg (by omega)]]; rfl, trivial⟩ rfl rfl (Nat.zero_le _)) ⟨by simp only; omega, by simp only; omega, by rw [List.nil_append, hwE, ← hj, hlj], by simp only [List.length_nil]; omega⟩ ?_
    rintro ⟨k, acc⟩ ⟨k0, k1, hk, hka⟩
    simp only at k0 k1 hk hka
    by_cases hb2 : txt f (offI l k) = true
    · have hk1 : k < l.length := by
        apply Classical.byContradiction
        intro h'
        rw [show offI l k = 0 by unfold offI; rw [if_pos (by omega)], txt0] at hb2
        cases hb2
      have e1 : offI l k = atI l k := by unfold offI; rw [if_neg (by omega)]
      have d1 := cl59_c f (offI l k) hl
      rw [hb2] at d1
      have c4 := treeAt_c f (offI l k) hl
      have c5 := beside_c f (offI l k) 1 hf (by omega) (by omega)
      rw [e1] at c4 c5 d1
      rw [hat (b := 1) k0 hk1] at c5
      have hpk := hpar k k0 hk1
      have hdl := (hf.at (atI l k)).data
      rw [runGo_next f (txt f) l k0 hk1, if_pos (by rw [← e1]; exact hb2), ← List.append_assoc] at hk
      obtain ⟨n, hn⟩ : ∃ n, n = nodeAt f (atI l k) := ⟨_, rfl⟩
      rw [← hn] at c4 hpk hdl hk
      have hacc : acc.length + n.data.length ≤ 10000000000000 := by omega
      simp only [e1]
      (repeat' (first | ((with_reducible show AL _ _ _ _ _); first | (refine AL.step tabs rfl ?_; try dsimp only [len, List.nil_append, List.cons_append]) | refine AL.callG [0] 2 rfl rfl rfl rfl (caps := [.ptr 0 1 0 0]) rfl rfl d1 rfl rfl rfl rfl rfl rfl rfl rfl (hpA := [⟨24, 1, [[.imm (.sl (f.map Node.iv))]]⟩]) rfl (r' := bav true) rfl rfl ?_; try dsimp only [setAll, List.drop_succ_cons, List.drop_zero, List.drop_nil, List.set_cons_succ, List.set_cons_zero, List.cons_append, List.nil_append, List.append_nil, len, Nat.reduceAdd] | refine AL.op rfl (OpOK.call rfl rfl rfl rfl c4 rfl) ?_ | refine AL.op rfl (OpOK.call rfl rfl rfl rfl c5 rfl) ?_ | refine AL.ope rfl (OpOK.append_m (ie := ti55) (xs := acc) (ys := n.data) (g := cU) (ty := 55) (sz := 1) tabs rfl rfl rfl rfl rfl rfl rfl rfl rfl rfl (srcU tabs rfl rfl n.data rfl) (by simp only [ti55]; omega) (by omega)) rfl ?_ | refine AL.nil ?_) | (exfalso; omega) | refine AW.seq ?_ | refine AW.region ?_ | refine Then.norm ?_ | refine AW.skip ?_ | refine AW.block ?_ | refine InB.norm ?_ | refine AW.condT rfl ?_ | refine AW.condF rfl ?_ | (refine AW.cond rfl (fun hc => ?_) (fun hc => ?_) <;> (try simp only [hsx] at hc) <;> (try first | (exfalso; omega) | contradiction | (exfalso; simp [dec_eq] at hc; done))) | refine AW.ret ?_ | refine AW.exit ?_ | refine Then.ret ?_ | refine Then.exit ?_ | refine InB.ret ?_ | refine InB.here ?_ | refine InB.off rfl ?_ | refine Rnd.ret ?_ | refine Rnd.exit ?_))
      refine Rnd.norm (k + 1, acc ++ n.data) ?_ ?_ ?_
      · exact Le.cut 2 rfl (by repeat' (first | exact trivial | refine ⟨rfl, ?_⟩)) rfl (by simp only [List.all_cons, List.all_nil, Bool.and_true, Bool.and_eq_true]; exact ⟨rfl, cU_sc _ _⟩) (Nat.zero_le _)
      · refine ⟨?_, ?_, hk, ?_⟩
        · show (0 : Int) ≤ k + 1; omega
        · show k + 1 ≤ (l.length : Int); omega
        · simp only [List.length_append]; omega
      · show (l.length - (k + 1) : Int).toNat < (l.length - k : Int).toNat; omega
    · have hb3 : txt f (offI l k) = false := by simpa using hb2
      have d1 := cl59_c f (offI l k) hl
      rw [hb3] at d1
      have ek : acc = w := by
        rw [← hk]
        by_cases hk1 : k < l.length
        · have e1 : offI l k = atI l k := by unfold offI; rw [if_neg (by omega)]
          rw [runGo_next f (txt f) l k0 hk1, if_neg (by rw [← e1]; exact hb2), List.append_nil]
        · rw [List.drop_eq_nil_of_le (by omega)]; simp [runGo]
      subst ek
      (repeat' (first | ((with_reducible show AL _ _ _ _ _); first | (refine AL.step tabs rfl ?_; try dsimp only [len, List.nil_append, List.cons_append]) | refine AL.callG [0] 2 rfl rfl rfl rfl (caps := [.ptr 0 1 0 0]) rfl rfl d1 rfl rfl rfl rfl rfl rfl rfl rfl (hpA := [⟨24, 1, [[.imm (.sl (f.map Node.iv))]]⟩]) rfl (r' := bav false) rfl rfl ?_; try dsimp only [setAll, List.drop_succ_cons, List.drop_zero, List.drop_nil, List.set_cons_succ, List.set_cons_zero, List.cons_append, List.nil_append, List.append_nil, len, Nat.reduceAdd] | refine AL.nil ?_) | refine AW.seq ?_ | refine AW.region ?_ | refine Then.norm ?_ | refine AW.skip ?_ | refine AW.block ?_ | refine InB.norm ?_ | refine AW.condT rfl ?_ | refine AW.condF rfl ?_ | (refine AW.cond rfl (fun hc => ?_) (fun hc => ?_) <;> (try simp only [hsx] at hc) <;> (try first | (exfalso; omega) | contradiction | (exfalso; simp [dec_eq] at hc; done))) | refine AW.ret ?_ | refine AW.exit ?_ | refine Then.ret ?_ | refine Then.exit ?_ | refine InB.ret ?_ | refine InB.here ?_ | refine InB.off rfl ?_ | refine Rnd.ret ?_ | refine Rnd.exit ?_))
      exact RQ.ret rfl (Fz.tup (.cons (Fz.os (b := ⟨55, 1, acc.map cU⟩) (rows := acc.map u16) rfl (List.length_map _).symm (by rw [List.map_map]; rfl)) (.cons (Fz.im rfl) .nil)))
end Go.Proofs.YtmhejcnaanocpaaGreat.A
namespace Go.Proofs.YtmhejcnaanocpaaGreat.A
open Go.Shelf Go.RowKit Go.Lib
set_option linter.unusedVariables false
set_option linter.unusedSimpArgs false
/-- what is copied: nothing, or cells that lie elsewhere. -/
def VSrc (b : Nat) (vA : Option Addr) (m : Nat) (vs : List Value) (w : World) : Prop :=
  m = 0 ∨ ∃ vb voff, vA = some ⟨vb, voff, none⟩ ∧ vb ≠ b ∧ ∀ j y, vs[j]? = some y → w.cell? ⟨vb, voff + j, none⟩ = some y
theorem copyV {b : Nat} {vA : Option Addr} {m vc : Nat} {vs : List Value} {w : World} (hV : VSrc b vA m vs w) (hvl : vs.length = m) (h1v : ∀ v ∈ vs, v.oneCell' = true) (W : World) (d o L dc : Nat) (ty : TypeId)
    (hW : ∀ vb j y, vb ≠ b → w.cell? ⟨vb, j, none⟩ = some y → W.cell? ⟨vb, j, none⟩ = some y) (hL : m ≤ L) (hsp : ∀ k, k < m → (W.cell? ⟨d, o + k, none⟩).isSome = true) (hfz : ∀ k, W.frozen? ⟨d, k, none⟩ = false) :
    (Builtin.copy_ #[36, 35] ty #[.slice (some ⟨d, o, none⟩) L dc, .slice vA m vc]).run Tryz.prog W = .ok (goInt vs.length) (W.setCells d o vs) := by
  have tS : Tryz.prog.underlying 36 = some (.slice 55) := Tryz.underlying36
  have iE : (Tryz.prog.info? 55).map (fun i => (i.zero, i.size, i.bytes)) = some (some (Value.int .u16 0), 1, 2) := by kernel_rfl
  obtain ⟨i0, hi0, hz0, hzs, hzb⟩ := info_parts iE
  have hsz : (Tryz.prog.info? 55).map (·.size) = some 1 := by rw [hi0]; simp [hzs]
  rcases hV with h0 | ⟨vb, voff, rfl, hvb, hvs⟩
  · subst h0
    have e : vs = [] := List.length_eq_zero_iff.1 hvl
    subst e
    have := run_copy_none W 36 35 ty 55 (some ⟨d, o, none⟩) vA L dc 0 vc tS hsz (by simp)
    exact this
  · exact run_copy_cells W _ _ ty 55 d o L dc ⟨vb, voff, none⟩ m vc vs tS hsz (by rw [hvl]; simp only [Nat.min_def]; split <;> omega)
      (fun j v hj => by rw [Addr.add_lit]; exact hW vb _ v hvb (hvs j v hj))
      (fun j hj => hsp _ (by omega)) (fun j hj => hfz _) h1v
set_option maxHeartbeats 4000000 in
set_option maxRecDepth 100000 in
theorem nRepU_mid_shrink (b n c i j m vc : Nat) (vA : Option Addr) (cs vs : List Value) (w : World) (hij : i < j) (hj : j < n) (hle : i + m ≤ j) (hnc : n ≤ c) (hc63 : c ≤ 9223372036854775807)
    (hcl : cs.length = n) (hvl : vs.length = m) (hcs : ∀ j v, cs[j]? = some v → w.cell? ⟨b, j, none⟩ = some v)
    (hsp : ∀ k, k < c → (w.cell? ⟨b, k, none⟩).isSome = true) (hfz : ∀ k, w.frozen? ⟨b, k, none⟩ = false) (hV : VSrc b vA m vs w) (h1c : ∀ v ∈ cs, v.oneCell' = true) (h1v : ∀ v ∈ vs, v.oneCell' = true) :
    Calls Tryz.prog 155 #[.slice (some ⟨b, 0, none⟩) n c, .int .i64 i, .int .i64 j, .slice vA m vc] w fun e w' =>
      e = .returned (.slice (some ⟨b, 0, none⟩) (i + m + (n - j)) c) ∧ ∃ q, w' = (((w.drewN q).setCells b i vs).drew.setCells b (i + m) (cs.drop j)).setCells b (i + m + (n - j)) (List.replicate (n - (i + m + (n - j))) (Value.int .u16 0)) := by
  have mixed : Tryz.prog.follows .mixedOrders = true := by kernel_rfl
  have tS : Tryz.prog.underlying 36 = some (.slice 55) := Tryz.underlying36
  have tI : Tryz.prog.underlying 3 = some (.int .i64) := Tryz.underlying3
  have iE : (Tryz.prog.info? 55).map (fun i => (i.zero, i.size, i.bytes)) = some (some (Value.int .u16 0), 1, 2) := by kernel_rfl
  obtain ⟨i0, hi0, hz0, hzs, hzb⟩ := info_parts iE
  have hsz : (Tryz.prog.info? 55).map (·.size) = some 1 := by rw [hi0]; simp [hzs]
  obtain ⟨t, hti⟩ : ∃ t, i + m + (n - j) = t := ⟨_, rfl⟩
  rw [hti]
  have hti' : (i : Int) + (m : Int) + ((n - j : Nat) : Int) = (t : Int) := by omega
  have hz1 : ¬ ((i : Int) = (j : Int)) := by omega
  have hz2 : ¬ ((j : Int) = (n : Int)) := by omega
  have hin : i ≤ n := by omega
  have hic : i ≤ c := by omega
  have hjn : j ≤ n := by omega
  have hji : (i : Int) ≤ (j : Int) := by omega
  have hjn' : (j : Int) ≤ (n : Int) := by omega
  have hnj : n - j = n - j := rfl
  have hw1 : IntKind.i64.wrap ((i : Int) + (m : Int)) = (i : Int) + (m : Int) := by rw [IntKind.wrap_i64]; omega
  have hw2 : IntKind.i64.wrap ((i : Int) + (m : Int) + ((n - j : Nat) : Int)) = (t : Int) := by rw [IntKind.wrap_i64]; omega
  have hcj : ¬ (c = j) := by omega
  have htc : t ≤ c := by omega
  have hci : ¬ (c = i) := by omega
  have hcim : ¬ (c = i + m) := by omega
  have hle' : (i : Int) + (m : Int) ≤ (j : Int) := by omega
  have hbt : (i : Int) + (m : Int) ≤ (t : Int) := by omega
  have hbt' : i + m ≤ t := by omega
  have htn : ((i : Int) + (m : Int)).toNat = i + m := by omega
  have hb1 : (0 : Int) ≤ (i : Int) + (m : Int) := by omega
  have hdl : (cs.drop j).length = n - j := by rw [List.length_drop, hcl]
  have hcpA : ∀ q ty dc, (Builtin.copy_ #[36, 35] ty #[.slice (some ⟨b, i, none⟩) (t - i) dc, .slice vA m vc]).run Tryz.prog (w.drewN q) = .ok (goInt vs.length) ((w.drewN q).setCells b i vs) := fun q ty dc =>
    copyV hV hvl h1v (w.drewN q) b i (t - i) dc ty (fun vb j y _ h => h) (by omega) (fun k hk => hsp _ (by omega)) (fun k => hfz k)
  have hsp1 : ∀ q k, k < c → (((w.drewN q).setCells b i vs).cell? ⟨b, k, none⟩).isSome = true := fun q k hk =>
    isSome_setCells b vs i (w.drewN q) (fun j hj => hsp _ (by omega)) _ (hsp k hk)
  have hfz1 : ∀ q k, ((w.drewN q).setCells b i vs).frozen? ⟨b, k, none⟩ = false := fun q k => by rw [World.frozen?_setCells]; exact hfz k
  have hcpB : ∀ q (W : World), (∀ x, W.cell? x = ((w.drewN q).setCells b i vs).cell? x) → (∀ x, W.frozen? x = ((w.drewN q).setCells b i vs).frozen? x) → ∀ ty dc sc, (Builtin.copy_ #[36, 36] ty #[.slice (some ⟨b, i + m, none⟩) (t - (i + m)) dc, .slice (some ⟨b, j, none⟩) (n - j) sc]).run Tryz.prog W = .ok (goInt (cs.drop j).length) (W.setCells b (i + m) (cs.drop j)) := fun q W hWc hWf ty dc sc =>
    run_copy_cells W _ _ ty 55 b (i + m) (t - (i + m)) dc ⟨b, j, none⟩ (n - j) sc (cs.drop j) tS hsz (by rw [hdl]; simp only [Nat.min_def]; split <;> omega)
      (fun k v hk => by
        rw [Addr.add_lit, hWc, World.cell?_setCells_out b _ _ _ _ (fun _ _ => Or.inr (by show i + vs.length ≤ j + k; omega))]
        exact hcs (j + k) v (by rwa [List.getElem?_drop] at hk))
      (fun k hk => by rw [hWc]; exact hsp1 q _ (by omega)) (fun k hk => by rw [hWf]; exact hfz1 q _) (fun v hv => h1c v (List.mem_of_mem_drop hv))
  by_cases htn' : t < n
  · have hct : ¬ (c = t) := by omega
    have hcl3 : ∀ q ty, (Builtin.clear_ #[36] ty #[.slice (some ⟨b, t, none⟩) (n - t) (c - t)]).run Tryz.prog (((w.drewN q).setCells b i vs).drew.setCells b (i + m) (cs.drop j)) = .ok (.tuple #[]) ((((w.drewN q).setCells b i vs).drew.setCells b (i + m) (cs.drop j)).setCells b t (List.replicate (n - t) (Value.int .u16 0))) :=
      fun q ty => Lib.run_clear_slice _ _ _ ty _ tS Tryz.zeroValue55 rfl rfl b t _ _ (by omega) (fun k hk => isSome_setCells b (cs.drop j) (i + m) ((w.drewN q).setCells b i vs).drew (fun z hz => hsp1 q _ (by omega)) _ (hsp1 q _ (by omega))) (fun k hk => by rw [World.frozen?_setCells]; exact hfz1 q _)
    go_enter Tryz.func155, Tryz.ntmps155
    go_wp2
    go_quiet_o (fail)
    go_wp2_with (at_builtin; refine wpList_copy_runI _ rfl _ _ 36 35 rfl _ _ rfl rfl (hcpA _ _ _) ?_)
    go_region_law_o (refine step_copy_runI rfl _ _ 36 36 rfl (.slice (some ⟨b, i + m, none⟩) (t - (i + m)) (c - (i + m))) (.slice (some ⟨b, j, none⟩) (n - j) (c - j)) (by simp [Act.eval, Act.put]) (by simp [Act.eval, Act.put]) (hcpB nq ((w.drewN nq).setCells b i vs).drew (fun _ => rfl) (fun _ => rfl) 3 (c - (i + m)) (c - j)) ?_)
    all_goals (go_wp2; go_ret; exact ⟨rfl, nq, rfl⟩)
  · have hz : n - t = 0 := by omega
    have htle : t ≤ n := by omega
    rw [hz]
    have hW0 : ∀ q, (((w.drewN q).setCells b i vs).drew.setCells b (i + m) (cs.drop j)).setCells b t (List.replicate 0 (Value.int .u16 0)) = ((w.drewN q).setCells b i vs).drew.setCells b (i + m) (cs.drop j) := fun q => rfl
    have hcl0 : ∀ (W : World) (d : Option Addr) k ty, (Builtin.clear_ #[36] ty #[.slice d 0 k]).run Tryz.prog W = .ok (.tuple #[]) W := fun W d k ty => by
      cases d <;> simp [Builtin.clear_, run_underlying tS, sizeOf, typeInfo, hi0, run_bind (Tryz.zeroValue55 W), storeCells, Builtin.zeroCells]
    go_enter Tryz.func155, Tryz.ntmps155
    go_wp2
    go_quiet_o (fail)
    go_wp2_with (at_builtin; refine wpList_copy_runI _ rfl _ _ 36 35 rfl _ _ rfl rfl (hcpA _ _ _) ?_)
    go_region_law_o (refine step_copy_runI rfl _ _ 36 36 rfl (.slice (some ⟨b, i + m, none⟩) (t - (i + m)) (c - (i + m))) (.slice (some ⟨b, j, none⟩) (n - j) (c - j)) (by simp [Act.eval, Act.put]) (by simp [Act.eval, Act.put]) (hcpB nq ((w.drewN nq).setCells b i vs).drew (fun _ => rfl) (fun _ => rfl) 3 (c - (i + m)) (c - j)) ?_)
    all_goals go_wp2
    all_goals (go_ret; exact ⟨rfl, nq, rfl⟩)
set_option maxHeartbeats 4000000 in
set_option maxRecDepth 100000 in
theorem nRepU_mid_expand (b n c i j m vc : Nat) (vA : Option Addr) (cs vs : List Value) (w : World) (hij : i < j) (hj : j < n) (hle : j < i + m) (hnc : n ≤ c) (htc0 : i + m + (n - j) ≤ c) (hc63 : c ≤ 9223372036854775807)
    (hcl : cs.length = n) (hvl : vs.length = m) (hcs : ∀ j v, cs[j]? = some v → w.cell? ⟨b, j, none⟩ = some v)
    (hsp : ∀ k, k < c → (w.cell? ⟨b, k, none⟩).isSome = true) (hfz : ∀ k, w.frozen? ⟨b, k, none⟩ = false) {vb voff : Nat} (hvA : vA = some ⟨vb, voff, none⟩) (hvb : vb ≠ b) (hvs : ∀ j y, vs[j]? = some y → w.cell? ⟨vb, voff + j, none⟩ = some y) (h1c : ∀ v ∈ cs, v.oneCell' = true) (h1v : ∀ v ∈ vs, v.oneCell' = true) :
    Calls Tryz.prog 155 #[.slice (some ⟨b, 0, none⟩) n c, .int .i64 i, .int .i64 j, .slice vA m vc] w fun e w' =>
      e = .returned (.slice (some ⟨b, 0, none⟩) (i + m + (n - j)) c) ∧ ∃ q, w' = ((w.drewN q).setCells b (i + m) (cs.drop j)).setCells b i vs := by
  have mixed : Tryz.prog.follows .mixedOrders = true := by kernel_rfl
  have tS : Tryz.prog.underlying 36 = some (.slice 55) := Tryz.underlying36
  have tI : Tryz.prog.underlying 3 = some (.int .i64) := Tryz.underlying3
  have iE : (Tryz.prog.info? 55).map (fun i => (i.zero, i.size, i.bytes)) = some (some (Value.int .u16 0), 1, 2) := by kernel_rfl
  obtain ⟨i0, hi0, hz0, hzs, hzb⟩ := info_parts iE
  have hsz : (Tryz.prog.info? 55).map (·.size) = some 1 := by rw [hi0]; simp [hzs]
  obtain ⟨t, hti⟩ : ∃ t, i + m + (n - j) = t := ⟨_, rfl⟩
  rw [hti]
  have hti' : (i : Int) + (m : Int) + ((n - j : Nat) : Int) = (t : Int) := by omega
  have hz1 : ¬ ((i : Int) = (j : Int)) := by omega
  have hz2 : ¬ ((j : Int) = (n : Int)) := by omega
  have hin : i ≤ n := by omega
  have hic : i ≤ c := by omega
  have hjn : j ≤ n := by omega
  have hji : (i : Int) ≤ (j : Int) := by omega
  have hjn' : (j : Int) ≤ (n : Int) := by omega
  have hnj : n - j = n - j := rfl
  have hw1 : IntKind.i64.wrap ((i : Int) + (m : Int)) = (i : Int) + (m : Int) := by rw [IntKind.wrap_i64]; omega
  have hw2 : IntKind.i64.wrap ((i : Int) + (m : Int) + ((n - j : Nat) : Int)) = (t : Int) := by rw [IntKind.wrap_i64]; omega
  have hcj : ¬ (c = j) := by omega
  have htc : t ≤ c := by omega
  have hci : ¬ (c = i) := by omega
  have hle' : ¬ ((i : Int) + (m : Int) ≤ (j : Int)) := by omega
  have hbt : (i : Int) + (m : Int) ≤ (t : Int) := by omega
  have hbt' : i + m ≤ t := by omega
  have hbc : ¬ (c = i + m) := by omega
  have htn : ((i : Int) + (m : Int)).toNat = i + m := by omega
  have hb1 : (0 : Int) ≤ (i : Int) + (m : Int) := by omega
  have hdl : (cs.drop j).length = n - j := by rw [List.length_drop, hcl]
  subst hvA
  have hov : ∀ q lb cb, (callFunc 181 #[.slice (some ⟨b, i + m, none⟩) lb cb, .slice (some ⟨vb, voff, none⟩) m vc]).run Tryz.prog (w.drewN q) = .ok (.value (.bool false)) (w.drewN q) := fun q lb cb => by
    obtain ⟨tA, kA, hsa, hkA, _⟩ := cell_shape (hvs 0 _ (List.getElem?_eq_getElem (by omega)))
    obtain ⟨y, hy⟩ := Option.isSome_iff_exists.1 (hsp 0 (by omega))
    obtain ⟨tB, kB, hsb, hkB, _⟩ := cell_shape hy
    rw [run_callFunc_extern Tryz.func181 (by kernel_rfl) (by kernel_rfl) (by kernel_rfl) (e := Extern.SlicesOverlaps.overlaps #[35, 35] #[4]) (by kernel_rfl),
      (overlaps_apart (w.drewN q) 35 4 55 Tryz.underlying35 1 Tryz.sizeOf55 ⟨vb, voff, none⟩ ⟨b, i + m, none⟩ m vc lb cb hvb tA tB kA kB hsa hsb hkA (hfz _) (hfz _)).1]
    rfl
  have hcpB : ∀ q ty dc sc, (Builtin.copy_ #[36, 36] ty #[.slice (some ⟨b, i + m, none⟩) (t - (i + m)) dc, .slice (some ⟨b, j, none⟩) (n - j) sc]).run Tryz.prog (w.drewN q).drew = .ok (goInt (cs.drop j).length) ((w.drewN q).drew.setCells b (i + m) (cs.drop j)) := fun q ty dc sc =>
    run_copy_cells (w.drewN q).drew _ _ ty 55 b (i + m) (t - (i + m)) dc ⟨b, j, none⟩ (n - j) sc (cs.drop j) tS hsz (by rw [hdl]; simp only [Nat.min_def]; split <;> omega)
      (fun k v hk => by rw [Addr.add_lit]; exact hcs (j + k) v (by rwa [List.getElem?_drop] at hk))
      (fun k hk => hsp _ (by omega)) (fun k hk => hfz _) (fun v hv => h1c v (List.mem_of_mem_drop hv))
  have hcpA : ∀ q ty dc, (Builtin.copy_ #[36, 35] ty #[.slice (some ⟨b, i, none⟩) (t - i) dc, .slice (some ⟨vb, voff, none⟩) m vc]).run Tryz.prog ((w.drewN q).setCells b (i + m) (cs.drop j)) = .ok (goInt vs.length) (((w.drewN q).setCells b (i + m) (cs.drop j)).setCells b i vs) := fun q ty dc =>
    run_copy_cells _ _ _ ty 55 b i (t - i) dc ⟨vb, voff, none⟩ m vc vs tS hsz (by rw [hvl]; simp only [Nat.min_def]; split <;> omega)
      (fun k v hk => by
        rw [Addr.add_lit, World.cell?_setCells_out b _ _ _ _ (fun h _ => absurd h hvb)]
        exact hvs k v hk)
      (fun k hk => isSome_setCells b (cs.drop j) (i + m) (w.drewN q) (fun z hz => hsp _ (by omega)) _ (hsp _ (by omega))) (fun k hk => by rw [World.frozen?_setCells]; exact hfz _) h1v
  go_enter Tryz.func155, Tryz.ntmps155
  go_wp2
  go_quiet_o (fail)
  go_wp2_with (simp only [hov])
  go_region_law_o (refine step_copy_runI rfl _ _ 36 36 rfl (.slice (some ⟨b, i + m, none⟩) (t - (i + m)) (c - (i + m))) (.slice (some ⟨b, j, none⟩) (n - j) (c - j)) (by simp [Act.eval, Act.put]) (by simp [Act.eval, Act.put]) (hcpB nq 3 (c - (i + m)) (c - j)) ?_)
  all_goals go_wp2_with (at_builtin; refine wpList_copy_runI _ rfl _ _ 36 35 rfl _ _ rfl rfl (hcpA (nq + 1) _ _) ?_)
  all_goals (go_ret; exact ⟨rfl, nq + 1, rfl⟩)
end Go.Proofs.YtmhejcnaanocpaaGreat.A
namespace Go.Proofs.YtmhejcnaanocpaaGreat.A
open Go.Shelf Go.RowKit Go.Lib
set_option linter.unusedVariables false
set_option linter.unusedSimpArgs false
set_option maxHeartbeats 4000000 in
set_option maxRecDepth 100000 in
theorem nRepU_mid_grow (b n c i j vb voff m vc : Nat) (cs vs : List Value) (w : World) (hij : i < j) (hj : j < n) (hnc : n ≤ c) (hroom : c < i + m + (n - j)) (hbig : (i + m + (n - j)) * 2 ≤ 140737488355328) (hbig2 : i + m + (n - j) ≤ 140737488355328)
    (hcl : cs.length = n) (hvl : vs.length = m) (hcs : ∀ j v, cs[j]? = some v → w.cell? ⟨b, j, none⟩ = some v)
    (hvs : ∀ j v, vs[j]? = some v → w.cell? ⟨vb, voff + j, none⟩ = some v) (h1c : ∀ v ∈ cs, v.oneCell' = true) (h1v : ∀ v ∈ vs, v.oneCell' = true) :
    Calls Tryz.prog 155 #[.slice (some ⟨b, 0, none⟩) n c, .int .i64 i, .int .i64 j, .slice (some ⟨vb, voff, none⟩) m vc] w fun e w' => ∃ q,
      e = .returned (.slice (some ⟨w.heap.size, 0, none⟩) (i + m + (n - j)) (grownCap (w.drewN q) (i + m + (n - j)) c 55)) ∧
      w' = (((w.drewN (q + 1)).alloc (.cells ((cs.take i).toArray ++ Builtin.zeroCells (Value.int .u16 0).cells (i + m + (n - j) - i) ++ Builtin.zeroCells (Value.int .u16 0).cells (grownCap (w.drewN q) (i + m + (n - j)) c 55 - (i + m + (n - j)))) 55)).setCells w.heap.size i vs).drew.setCells w.heap.size (i + m) (cs.drop j) := by
  have mixed : Tryz.prog.follows .mixedOrders = true := by kernel_rfl
  have tS : Tryz.prog.underlying 36 = some (.slice 55) := Tryz.underlying36
  have tI : Tryz.prog.underlying 3 = some (.int .i64) := Tryz.underlying3
  have iE : (Tryz.prog.info? 55).map (fun i => (i.zero, i.size, i.bytes)) = some (some (Value.int .u16 0), 1, 2) := by kernel_rfl
  obtain ⟨i0, hi0, hz0, hzs, hzb⟩ := info_parts iE
  have hsz : (Tryz.prog.info? 55).map (·.size) = some 1 := by rw [hi0]; simp [hzs]
  obtain ⟨t, hti⟩ : ∃ t, i + m + (n - j) = t := ⟨_, rfl⟩
  rw [hti] at hroom hbig hbig2 ⊢
  have hti' : (i : Int) + (m : Int) + ((n - j : Nat) : Int) = (t : Int) := by omega
  have hz1 : ¬ ((i : Int) = (j : Int)) := by omega
  have hz2 : ¬ ((j : Int) = (n : Int)) := by omega
  have hin : i ≤ n := by omega
  have hic : i ≤ c := by omega
  have hjn : j ≤ n := by omega
  have hji : (i : Int) ≤ (j : Int) := by omega
  have hjn' : (j : Int) ≤ (n : Int) := by omega
  have hw1 : IntKind.i64.wrap ((i : Int) + (m : Int)) = (i : Int) + (m : Int) := by rw [IntKind.wrap_i64]; omega
  have hw2 : IntKind.i64.wrap ((i : Int) + (m : Int) + ((n - j : Nat) : Int)) = (t : Int) := by rw [IntKind.wrap_i64]; omega
  have hcj : ¬ (c = j) := by omega
  have hz3 : (c : Int) < (t : Int) := by omega
  have hbw : b < w.heap.size := block_lt_of_cell (hcs 0 _ (List.getElem?_eq_getElem (by omega)))
  have hm0 : 0 < m := by omega
  have hvw : vb < w.heap.size := block_lt_of_cell (hvs 0 _ (List.getElem?_eq_getElem (by omega)))
  have hkk : (t : Int) - (i : Int) = ((t - i : Nat) : Int) := by omega
  have hik : i + (t - i) = t := by omega
  have hold : ∀ q, (Builtin.firstCells i0.size i (.slice (some ⟨b, 0, none⟩) i c)).run Tryz.prog (w.drewN q).drew = .ok (cs.take i).toArray (w.drewN q).drew := fun q => by
    rw [hzs]
    exact run_firstCells_some (w.drewN q).drew 1 i ⟨b, 0, none⟩ i c (cs.take i) (by rw [List.length_take]; omega) (fun j v hj => by
      rw [Addr.add_lit, Nat.zero_add]
      rw [List.getElem?_take] at hj
      split at hj
      · exact hcs j v hj
      · cases hj)
  have hrz : ∀ q ty, (Builtin.append_ #[36, 3] ty #[.slice (some ⟨b, 0, none⟩) i c, .int .i64 ((t : Int) - (i : Int))]).run Tryz.prog (w.drewN q) =
      .ok (.slice (some ⟨w.heap.size, 0, none⟩) t (grownCap (w.drewN q) t c 55)) ((w.drewN (q + 1)).alloc (.cells ((cs.take i).toArray ++ Builtin.zeroCells (Value.int .u16 0).cells (t - i) ++ Builtin.zeroCells (Value.int .u16 0).cells (grownCap (w.drewN q) t c 55 - t)) 55)) := fun q ty => by
    have h := Lib.run_append_grow_zeros (w.drewN q) 36 3 ty 55 i0 _ .i64 .i64 tS tI hi0 hz0 (some ⟨b, 0, none⟩) i c (cs.take i) (hold q) (t - i) (by omega) (by omega) (by omega) (by omega) (by rw [hzb]; omega) (by rw [hzb, hik]; exact growslice_fits hroom hbig)
    rw [hik] at h
    rw [hkk]
    exact h
  go_enter Tryz.func155, Tryz.ntmps155
  go_wp2
  go_quiet_o (fail)
  have hr := hrz nq
  have hge := grownCap_ge (w.drewN nq) t c 55
  have hcm := grownCap_le_maxLen (w.drewN nq) t c 55 (by unfold maxLen; omega)
  obtain ⟨G, hG⟩ : ∃ G, G = grownCap (w.drewN nq) t c 55 := ⟨_, rfl⟩
  obtain ⟨ROW, hROW⟩ : ∃ ROW : Array Value, ROW = (cs.take i).toArray ++ Builtin.zeroCells (Value.int .u16 0).cells (t - i) ++ Builtin.zeroCells (Value.int .u16 0).cells (G - t) := ⟨_, rfl⟩
  rw [← hG] at hr hge hcm
  rw [← hROW] at hr
  have hRl : t ≤ ROW.size := by
    rw [hROW]
    simp [Builtin.zeroCells, Value.cells]
    omega
  obtain ⟨w2, hw2'⟩ : ∃ w2, w2 = w.drewN (nq + 1) := ⟨_, rfl⟩
  rw [← hw2'] at hr
  have hs2 : w2.heap.size = w.heap.size := by rw [hw2']; rfl
  have hN : ∀ k, k < t → ((w2.alloc (.cells ROW 55)).cell? ⟨w.heap.size, k, none⟩).isSome = true := fun k hk => by
    rw [World.cell?_alloc_at (w := w2) ROW _ w.heap.size k hs2.symm, Array.getElem?_eq_getElem (by omega)]; rfl
  have hNf : ∀ k, (w2.alloc (.cells ROW 55)).frozen? ⟨w.heap.size, k, none⟩ = false := fun k => World.frozen?_alloc_at (w := w2) ROW _ w.heap.size k hs2.symm
  have hOb : ∀ k v, w.cell? ⟨b, k, none⟩ = some v → (w2.alloc (.cells ROW 55)).cell? ⟨b, k, none⟩ = some v := fun k v h => by rw [World.cell?_alloc_past (w := w2) _ b k (by omega), hw2']; exact h
  have hOv : ∀ k v, w.cell? ⟨vb, k, none⟩ = some v → (w2.alloc (.cells ROW 55)).cell? ⟨vb, k, none⟩ = some v := fun k v h => by rw [World.cell?_alloc_past (w := w2) _ vb k (by omega), hw2']; exact h
  have hcpA : ∀ ty dc, (Builtin.copy_ #[36, 35] ty #[.slice (some ⟨w.heap.size, i, none⟩) (t - i) dc, .slice (some ⟨vb, voff, none⟩) m vc]).run Tryz.prog (w2.alloc (.cells ROW 55)) = .ok (goInt vs.length) ((w2.alloc (.cells ROW 55)).setCells w.heap.size i vs) := fun ty dc =>
    run_copy_cells _ _ _ ty 55 w.heap.size i (t - i) dc ⟨vb, voff, none⟩ m vc vs tS hsz (by rw [hvl]; simp only [Nat.min_def]; split <;> omega)
      (fun k v hk => by rw [Addr.add_lit]; exact hOv _ v (hvs k v hk))
      (fun k hk => hN _ (by omega)) (fun k hk => hNf _) h1v
  have hGi : ¬ (G = i) := by omega
  have hGim : ¬ (G = i + m) := by omega
  have hci : ¬ (c = i) := by omega
  have hbN : b ≠ w.heap.size := by omega
  have hdl : (cs.drop j).length = n - j := by rw [List.length_drop, hcl]
  have hbt : (i : Int) + (m : Int) ≤ (t : Int) := by omega
  have hbt' : i + m ≤ t := by omega
  have hit : i ≤ t := by omega
  have hit' : (i : Int) ≤ (t : Int) := by omega
  have htn : ((i : Int) + (m : Int)).toNat = i + m := by omega
  have hb1 : (0 : Int) ≤ (i : Int) + (m : Int) := by omega
  have hcpB : ∀ (W : World), (∀ x, W.cell? x = ((w2.alloc (.cells ROW 55)).setCells w.heap.size i vs).cell? x) → (∀ x, W.frozen? x = ((w2.alloc (.cells ROW 55)).setCells w.heap.size i vs).frozen? x) → ∀ ty dc sc, (Builtin.copy_ #[36, 36] ty #[.slice (some ⟨w.heap.size, i + m, none⟩) (t - (i + m)) dc, .slice (some ⟨b, j, none⟩) (n - j) sc]).run Tryz.prog W = .ok (goInt (cs.drop j).length) (W.setCells w.heap.size (i + m) (cs.drop j)) := fun W hWc hWf ty dc sc =>
    run_copy_cells W _ _ ty 55 w.heap.size (i + m) (t - (i + m)) dc ⟨b, j, none⟩ (n - j) sc (cs.drop j) tS hsz (by rw [hdl]; simp only [Nat.min_def]; split <;> omega)
      (fun k v hk => by
        rw [Addr.add_lit, hWc, World.cell?_setCells_out _ _ _ _ _ (fun h _ => absurd h hbN)]
        exact hOb _ v (hcs (j + k) v (by rwa [List.getElem?_drop] at hk)))
      (fun k hk => by rw [hWc]; exact isSome_setCells _ _ _ _ (fun z hz => hN _ (by omega)) _ (hN _ (by omega)))
      (fun k hk => by rw [hWf, World.frozen?_setCells]; exact hNf _) (fun v hv => h1c v (List.mem_of_mem_drop hv))
  have hG' : Nonempty (PLift (G = grownCap (w.drewN nq) t c 55)) := ⟨⟨hG⟩⟩
  have hROW' : Nonempty (PLift (ROW = (cs.take i).toArray ++ Builtin.zeroCells (Value.int .u16 0).cells (t - i) ++ Builtin.zeroCells (Value.int .u16 0).cells (G - t))) := ⟨⟨hROW⟩⟩
  have hw2'' : Nonempty (PLift (w2 = w.drewN (nq + 1))) := ⟨⟨hw2'⟩⟩
  clear hkk hik hold hrz hG hROW hw2'
  go_wp2_with (first
    | (at_builtin; refine Lib.wpList_append_run _ rfl _ _ _ _ rfl _ _ rfl rfl _ _ (hr _) ?_)
    | (at_builtin; refine wpList_copy_runI _ rfl _ _ 36 35 rfl _ _ rfl rfl (hcpA _ _) ?_))
  go_region_law_o (refine step_copy_runI rfl _ _ 36 36 rfl (.slice (some ⟨w.heap.size, i + m, none⟩) (t - (i + m)) (G - (i + m))) (.slice (some ⟨b, j, none⟩) (n - j) (c - j)) (by simp [Act.eval, Act.put]) (by simp [Act.eval, Act.put]) (hcpB ((w2.alloc (.cells ROW 55)).setCells w.heap.size i vs).drew (fun _ => rfl) (fun _ => rfl) 3 (G - (i + m)) (c - j)) ?_)
  all_goals go_wp2
  all_goals (go_ret; refine ⟨nq, ?_, ?_⟩)
  all_goals
    obtain ⟨⟨e1⟩⟩ := hG'
    obtain ⟨⟨e2⟩⟩ := hROW'
    obtain ⟨⟨e3⟩⟩ := hw2''
    first
    | (subst e1; rfl)
    | rw [e3, e2, e1]
end Go.Proofs.YtmhejcnaanocpaaGreat.A
namespace Go.Proofs.YtmhejcnaanocpaaGreat.A
open Go.Shelf Go.RowKit Go.Lib
set_option linter.unusedVariables false
set_option linter.unusedSimpArgs false
theorem spliceA {α : Type} (ys sp vs D Z : List α) (i m t : Nat) (hm : vs.length = m) (hi : i ≤ ys.length) (ht : t = i + m + D.length) (hz : t + Z.length = ys.length) :
    (((((ys ++ sp).take i ++ vs ++ (ys ++ sp).drop (i + m)).take (i + m) ++ D ++ ((ys ++ sp).take i ++ vs ++ (ys ++ sp).drop (i + m)).drop (i + m + D.length)).take t) ++ Z ++ ((((ys ++ sp).take i ++ vs ++ (ys ++ sp).drop (i + m)).take (i + m) ++ D ++ ((ys ++ sp).take i ++ vs ++ (ys ++ sp).drop (i + m)).drop (i + m + D.length)).drop (t + Z.length))) = (ys.take i ++ vs ++ D ++ Z) ++ sp := by
  have h1 : (ys ++ sp).take i = ys.take i := List.take_append_of_le_length hi
  have h2 : (ys.take i ++ vs).length = i + m := by simp; omega
  rw [h1]
  rw [List.take_left' (l₁ := ys.take i ++ vs) (l₂ := (ys ++ sp).drop (i + m)) h2]
  rw [show (ys.take i ++ vs ++ (ys ++ sp).drop (i + m)).drop (i + m + D.length) = (ys ++ sp).drop (i + m + D.length) by
    rw [List.drop_append, h2, List.drop_eq_nil_of_le (by omega), List.nil_append, List.drop_drop]
    congr 1; omega]
  have h3 : (ys.take i ++ vs ++ D).length = t := by rw [List.length_append, h2, ht]
  rw [List.take_left' h3]
  rw [show (ys.take i ++ vs ++ D ++ (ys ++ sp).drop (i + m + D.length)).drop (t + Z.length) = sp by
    rw [List.drop_append, h3, List.drop_eq_nil_of_le (by omega), List.nil_append, List.drop_drop, ← ht, show t + (t + Z.length - t) = ys.length by omega, List.drop_left' rfl]]
theorem spliceB {α : Type} (ys sp vs D : List α) (i m : Nat) (hm : vs.length = m) (hi : i ≤ ys.length) (ht : ys.length ≤ i + m + D.length) (hr : i + m ≤ ys.length + sp.length) :
    (((ys ++ sp).take (i + m) ++ D ++ (ys ++ sp).drop (i + m + D.length)).take i ++ vs ++ ((ys ++ sp).take (i + m) ++ D ++ (ys ++ sp).drop (i + m + D.length)).drop (i + m)) = (ys.take i ++ vs ++ D) ++ sp.drop (i + m + D.length - ys.length) := by
  have h1 : ((ys ++ sp).take (i + m)).length = i + m := by simp; omega
  rw [List.append_assoc ((ys ++ sp).take (i + m)), List.take_append_of_le_length (by omega), List.take_take, Nat.min_eq_left (by omega), List.take_append_of_le_length hi, List.drop_left' h1]
  rw [List.drop_append, show ys.drop (i + m + D.length) = [] from List.drop_eq_nil_of_le ht, List.nil_append]
  simp [List.append_assoc]
theorem spliceC {α : Type} (ys zs vs D : List α) (i m : Nat) (hm : vs.length = m) (hi : i ≤ ys.length) :
    ((((ys.take i ++ zs).take i ++ vs ++ (ys.take i ++ zs).drop (i + m)).take (i + m)) ++ D ++ ((ys.take i ++ zs).take i ++ vs ++ (ys.take i ++ zs).drop (i + m)).drop (i + m + D.length)) = (ys.take i ++ vs ++ D) ++ zs.drop (m + D.length) := by
  have hl : (ys.take i).length = i := by simp only [List.length_take]; omega
  have hl2 : (ys.take i ++ vs).length = i + m := by simp only [List.length_append, hl, hm]
  rw [List.take_left' hl, List.take_left' hl2, List.drop_append, hl2]
  rw [show (ys.take i ++ vs).drop (i + m + D.length) = [] from List.drop_eq_nil_of_le (by rw [hl2]; omega), List.nil_append]
  rw [show (ys.take i ++ zs).drop (i + m) = zs.drop m from by rw [show i + m = (ys.take i).length + m by rw [hl], List.drop_length_add_append], List.drop_drop]
  congr 2; omega
/-- what is there, with nought behind it where there is less. -/
def midL (l v : List Int) (i j : Nat) : List Int := l.take i ++ v ++ l.drop j ++ List.replicate (l.length - (i + v.length + (l.length - j))) 0
theorem midL_len (l v : List Int) (i j : Nat) (hij : i ≤ j) (hj : j ≤ l.length) : (midL l v i j).length = i + v.length + (l.length - j) + (l.length - (i + v.length + (l.length - j))) := by
  unfold midL
  simp only [List.length_append, List.length_take, List.length_drop, List.length_replicate]
  omega
set_option maxHeartbeats 4000000 in
set_option maxRecDepth 100000 in
theorem coreMidU {C : Cx} {s : St} {γ : Nat → Option Nat} {κ : Nat → Nat} {a : Act} {W : World} (hC : Conc C s γ κ a W) {id : Nat} {l v : List Int} (hb : s.hp[id]? = some ⟨55, 1, l.map (cK .u16)⟩) {i j : Nat} (hij : i < j) (hj : j < l.length) (hl : l.length ≤ 1000000000) (hv : v.length ≤ 1000000000)
    {vA : Option Addr} {vc : Nat} (hV : v.length = 0 ∨ ∃ vb voff, vA = some ⟨vb, voff, none⟩ ∧ γ id ≠ some vb ∧ ∀ k y, (v.map (Value.int .u16))[k]? = some y → W.cell? ⟨vb, voff + k, none⟩ = some y) :
    Calls Tryz.prog 155 #[.slice ((γ id).map fun g => ⟨g, 0, none⟩) l.length (κ id), .int .i64 i, .int .i64 j, .slice vA v.length vc] W fun e W' => ∃ x γ' κ', e = .returned x ∧
      Conc C ⟨s.env, s.hp.set id ⟨55, 1, (midL l v i j).map (cK .u16)⟩⟩ γ' κ' a W' ∧ RepA (St.mm ⟨s.env, s.hp.set id ⟨55, 1, (midL l v i j).map (cK .u16)⟩⟩ C γ' κ' W') (.sub id (midL l v i j).length 0 (i + v.length + (l.length - j))) x := by
  have hid : id < s.hp.length := (List.getElem?_eq_some_iff.1 hb).1
  obtain ⟨g, sp, hg, hmem, hcap⟩ := ownU hC hb (fun e => by rw [e] at hj; simp at hj)
  have hmax' : κ id ≤ maxLen := (hC.blk id _ hb).capm
  have hc63 : κ id ≤ 9223372036854775807 := by unfold maxLen at hmax'; omega
  rw [hg]
  have hcell : ∀ j, W.cell? ⟨g, j, none⟩ = (l.map (Value.int .u16) ++ sp)[j]? := fun j => by rw [blk_cell hmem]; simp
  have hcs : ∀ j y, (l.map (Value.int .u16))[j]? = some y → W.cell? ⟨g, j, none⟩ = some y := fun j y hy => by
    rw [hcell, List.getElem?_append_left (List.getElem?_eq_some_iff.1 hy).1]; exact hy
  have h1c : ∀ u : List Int, ∀ y ∈ u.map (Value.int .u16), y.oneCell' = true := by
    intro u y hy
    obtain ⟨z, _, rfl⟩ := List.mem_map.1 hy
    rfl
  obtain ⟨t, ht⟩ : ∃ t, i + v.length + (l.length - j) = t := ⟨_, rfl⟩
  have hml := midL_len l v i j (by omega) (by omega)
  rw [ht] at hml ⊢
  have hnew : ((midL l v i j).map (cK .u16)).length = (midL l v i j).length := List.length_map _
  have hrep : All2 (RepA (s.mm C γ κ W)) ((midL l v i j).map (cK .u16)).flatten ((midL l v i j).map (Value.int .u16)) := cK_rep _ _
  have e2 : (l.map (Value.int .u16)).take i ++ v.map (Value.int .u16) ++ (l.map (Value.int .u16)).drop j ++ List.replicate (l.length - t) (Value.int .u16 0) = (midL l v i j).map (Value.int .u16) := by
    unfold midL; rw [ht]; simp
  have hsub : ∀ {γ' : Nat → Option Nat} {κ' : Nat → Nat} {W' : World} {g' k' : Nat}, γ' id = some g' → t ≤ k' → RepA (St.mm ⟨s.env, s.hp.set id ⟨55, 1, (midL l v i j).map (cK .u16)⟩⟩ C γ' κ' W') (.sub id (midL l v i j).length 0 t) (.slice (some ⟨g', 0, none⟩) t k') := by
    intro γ' κ' W' g' k' h1 h2
    refine .sub id _ 0 _ ⟨55, 1, (midL l v i j).map (cK .u16)⟩ _ _ (List.getElem?_set_self hid) (Nat.le_of_eq hnew.symm) (fun _ => ⟨by omega, fun _ => ⟨g', h1, by simp⟩⟩) h2
  have hdl : ((l.map (Value.int .u16)).drop j).length = l.length - j := by simp
  have hvl : (v.map (Value.int .u16)).length = v.length := by simp
  have hll : (l.map (Value.int .u16)).length = l.length := by simp
  have hspc : ∀ k, k < κ id → (W.cell? ⟨g, k, none⟩).isSome = true := fun k hk => by
    rw [hcell, List.getElem?_eq_getElem (by simp only [List.length_append, List.length_map]; omega)]; rfl
  by_cases hle : i + v.length ≤ j
  · have hV' : VSrc g vA v.length (v.map (Value.int .u16)) W := by
      rcases hV with h | ⟨vb, voff, h1, h2, h3⟩
      · exact .inl h
      · exact .inr ⟨vb, voff, h1, fun e => h2 (by rw [hg, e]), h3⟩
    refine (nRepU_mid_shrink g l.length (κ id) i j v.length vc vA _ _ W hij hj hle (by omega) hc63 hll hvl hcs hspc (fun k => blk_frozen hmem k) hV' (h1c l) (h1c v)).mono ?_
    rintro e W' ⟨rfl, q, rfl⟩
    rw [ht]
    have h1 := setCells_at (v.map (Value.int .u16)) i (W.drewN q) _ hmem (by simp only [List.length_append, List.length_map]; omega)
    have h2 := setCells_at ((l.map (Value.int .u16)).drop j) (i + v.length) ((W.drewN q).setCells g i (v.map (Value.int .u16))).drew _ h1 (by simp only [List.length_append, List.length_map, List.length_drop, List.length_take]; omega)
    have h3 := setCells_at (List.replicate (l.length - t) (Value.int .u16 0)) t _ _ h2 (by simp only [List.length_append, List.length_map, List.length_take, List.length_drop, List.length_replicate]; omega)
    rw [hvl, spliceA (l.map (Value.int .u16)) sp (v.map (Value.int .u16)) ((l.map (Value.int .u16)).drop j) (List.replicate (l.length - t) (Value.int .u16 0)) i v.length t hvl (by omega) (by omega) (by rw [List.length_replicate]; omega), e2] at h3
    have hs1 := setCells_same g (v.map (Value.int .u16)) i (W.drewN q)
    have hs2 := setCells_same g ((l.map (Value.int .u16)).drop j) (i + v.length) ((W.drewN q).setCells g i (v.map (Value.int .u16))).drew
    have hs3 := setCells_same g (List.replicate (l.length - t) (Value.int .u16 0)) t (((W.drewN q).setCells g i (v.map (Value.int .u16))).drew.setCells g (i + v.length) ((l.map (Value.int .u16)).drop j))
    obtain ⟨γ', κ', k1, k2, k3⟩ := hC.swap (b := ⟨55, 1, l.map (cK .u16)⟩) hb (g' := g) (k' := κ id) (rows' := (midL l v i j).map (cK .u16)) h3
      (fun x hx _ => (setCells_far g x hx _ _ _).trans ((setCells_far g x hx _ _ _).trans (setCells_far g x hx _ _ _))) (by rw [hs3.2.2.2, hs2.2.2.2]; show _ ≤ ((W.drewN q).setCells g i (v.map (Value.int .u16))).heap.size; rw [hs1.2.2.2]; exact Nat.le_refl _) (hs3.1.trans (hs2.1.trans hs1.1)) (hs3.2.1.trans (hs2.2.1.trans hs1.2.1)) (hs3.2.2.1.trans (hs2.2.2.1.trans hs1.2.2.1)) (.inl hg)
      (fun _ => ⟨hg, rfl⟩) (by rw [hnew, hml, List.length_map]; omega) (cK_row _) (cK_cell _) (by rw [hnew, hml]; omega) hmax' (by simp only [List.length_append, List.length_map, hml]; show _ = κ id * 1; omega) hrep
    exact ⟨_, γ', κ', rfl, k1, hsub k2 (by omega)⟩
  · obtain ⟨vb, voff, rfl, hvb, hvs⟩ : ∃ vb voff, vA = some ⟨vb, voff, none⟩ ∧ γ id ≠ some vb ∧ ∀ k y, (v.map (Value.int .u16))[k]? = some y → W.cell? ⟨vb, voff + k, none⟩ = some y := by
      rcases hV with h | h
      · omega
      · exact h
    have hz : l.length - t = 0 := by omega
    rw [hz, List.replicate_zero, List.append_nil] at e2
    by_cases hroom : t ≤ κ id
    · refine (nRepU_mid_expand g l.length (κ id) i j v.length vc _ _ _ W hij hj (by omega) (by omega) (by omega) hc63 hll hvl hcs hspc (fun k => blk_frozen hmem k) rfl (fun e => hvb (by rw [hg, e])) hvs (h1c l) (h1c v)).mono ?_
      rintro e W' ⟨rfl, q, rfl⟩
      rw [ht]
      have h1 := setCells_at ((l.map (Value.int .u16)).drop j) (i + v.length) (W.drewN q) _ hmem (by simp only [List.length_append, List.length_map, List.length_drop]; omega)
      have h2 := setCells_at (v.map (Value.int .u16)) i _ _ h1 (by simp only [List.length_append, List.length_map, List.length_drop, List.length_take]; omega)
      rw [hvl, spliceB (l.map (Value.int .u16)) sp (v.map (Value.int .u16)) ((l.map (Value.int .u16)).drop j) i v.length hvl (by omega) (by omega) (by omega), e2] at h2
      have hs1 := setCells_same g ((l.map (Value.int .u16)).drop j) (i + v.length) (W.drewN q)
      have hs2 := setCells_same g (v.map (Value.int .u16)) i ((W.drewN q).setCells g (i + v.length) ((l.map (Value.int .u16)).drop j))
      obtain ⟨γ', κ', k1, k2, k3⟩ := hC.swap (b := ⟨55, 1, l.map (cK .u16)⟩) hb (g' := g) (k' := κ id) (rows' := (midL l v i j).map (cK .u16)) h2
        (fun x hx _ => (setCells_far g x hx _ _ _).trans (setCells_far g x hx _ _ _)) (by rw [hs2.2.2.2, hs1.2.2.2]; exact Nat.le_refl _) (hs2.1.trans hs1.1) (hs2.2.1.trans hs1.2.1) (hs2.2.2.1.trans hs1.2.2.1) (.inl hg)
        (fun _ => ⟨hg, rfl⟩) (by rw [hnew, hml, List.length_map]; omega) (cK_row _) (cK_cell _) (by rw [hnew, hml]; omega) hmax' (by simp only [List.length_append, List.length_map, List.length_drop, hml]; show _ = κ id * 1; omega) hrep
      exact ⟨_, γ', κ', rfl, k1, hsub k2 (by omega)⟩
    · refine (nRepU_mid_grow g l.length (κ id) i j vb voff v.length vc _ _ W hij hj (by omega) (by omega) (by omega) (by omega) hll hvl hcs hvs (h1c l) (h1c v)).mono ?_
      rintro e W' ⟨q, rfl, rfl⟩
      rw [ht]
      have hge := grownCap_ge (W.drewN q) t (κ id) 55
      have hcm := grownCap_le_maxLen (W.drewN q) t (κ id) 55 (by unfold maxLen; omega)
      generalize grownCap (W.drewN q) t (κ id) 55 = G at hge hcm ⊢
      have h0 : ((W.drewN (q + 1)).alloc (.cells (((l.map (Value.int .u16)).take i).toArray ++ Builtin.zeroCells (Value.int .u16 0).cells (t - i) ++ Builtin.zeroCells (Value.int .u16 0).cells (G - t)) 55)).heap[W.heap.size]? = some (.cells (((l.map (Value.int .u16)).take i ++ (Builtin.zeroCells (Value.int .u16 0).cells (t - i) ++ Builtin.zeroCells (Value.int .u16 0).cells (G - t)).toList).toArray) 55 (0, 0)) := by
        have := heap_alloc_new (W.drewN (q + 1)) (.cells (((l.map (Value.int .u16)).take i).toArray ++ Builtin.zeroCells (Value.int .u16 0).cells (t - i) ++ Builtin.zeroCells (Value.int .u16 0).cells (G - t)) 55 (0, 0))
        refine Eq.trans this ?_
        congr 2
        apply Array.toList_inj.1; simp
      have hzl : (Builtin.zeroCells (Value.int .u16 0).cells (t - i) ++ Builtin.zeroCells (Value.int .u16 0).cells (G - t)).toList.length = G - i := by
        simp [size_zeroCells, Value.cells]; omega
      generalize (Builtin.zeroCells (Value.int .u16 0).cells (t - i) ++ Builtin.zeroCells (Value.int .u16 0).cells (G - t)).toList = zs at h0 hzl
      have hA1 : ∀ x, x < W.heap.size → ((W.drewN (q + 1)).alloc (.cells (((l.map (Value.int .u16)).take i).toArray ++ Builtin.zeroCells (Value.int .u16 0).cells (t - i) ++ Builtin.zeroCells (Value.int .u16 0).cells (G - t)) 55)).heap[x]? = W.heap[x]? := fun x hx => Below.heap_alloc (W.drewN (q + 1)) _ x hx
      have hA2 : ((W.drewN (q + 1)).alloc (.cells (((l.map (Value.int .u16)).take i).toArray ++ Builtin.zeroCells (Value.int .u16 0).cells (t - i) ++ Builtin.zeroCells (Value.int .u16 0).cells (G - t)) 55)).heap.size = W.heap.size + 1 := by
        show (W.heap.push _).size = _
        simp
      have hA3 : ((W.drewN (q + 1)).alloc (.cells (((l.map (Value.int .u16)).take i).toArray ++ Builtin.zeroCells (Value.int .u16 0).cells (t - i) ++ Builtin.zeroCells (Value.int .u16 0).cells (G - t)) 55)).os = W.os ∧ ((W.drewN (q + 1)).alloc (.cells (((l.map (Value.int .u16)).take i).toArray ++ Builtin.zeroCells (Value.int .u16 0).cells (t - i) ++ Builtin.zeroCells (Value.int .u16 0).cells (G - t)) 55)).tape = W.tape ∧ ((W.drewN (q + 1)).alloc (.cells (((l.map (Value.int .u16)).take i).toArray ++ Builtin.zeroCells (Value.int .u16 0).cells (t - i) ++ Builtin.zeroCells (Value.int .u16 0).cells (G - t)) 55)).output = W.output := ⟨rfl, rfl, rfl⟩
      generalize (W.drewN (q + 1)).alloc (.cells (((l.map (Value.int .u16)).take i).toArray ++ Builtin.zeroCells (Value.int .u16 0).cells (t - i) ++ Builtin.zeroCells (Value.int .u16 0).cells (G - t)) 55) = WA at h0 hA1 hA2 hA3 ⊢
      have h1 := setCells_at (v.map (Value.int .u16)) i WA _ h0 (by simp only [List.length_append, List.length_map, List.length_take]; omega)
      have hs1 := setCells_same W.heap.size (v.map (Value.int .u16)) i WA
      have hf1 := fun x hx => setCells_far W.heap.size x hx (v.map (Value.int .u16)) i WA
      have hB : (WA.setCells W.heap.size i (v.map (Value.int .u16))).drew.heap = (WA.setCells W.heap.size i (v.map (Value.int .u16))).heap ∧ (WA.setCells W.heap.size i (v.map (Value.int .u16))).drew.os = (WA.setCells W.heap.size i (v.map (Value.int .u16))).os ∧ (WA.setCells W.heap.size i (v.map (Value.int .u16))).drew.tape = (WA.setCells W.heap.size i (v.map (Value.int .u16))).tape ∧ (WA.setCells W.heap.size i (v.map (Value.int .u16))).drew.output = (WA.setCells W.heap.size i (v.map (Value.int .u16))).output := ⟨rfl, rfl, rfl, rfl⟩
      generalize (WA.setCells W.heap.size i (v.map (Value.int .u16))).drew = WB at hB ⊢
      generalize WA.setCells W.heap.size i (v.map (Value.int .u16)) = WB' at hB h1 hs1 hf1
      rw [← hB.1] at h1
      have h2 := setCells_at ((l.map (Value.int .u16)).drop j) (i + v.length) WB _ h1 (by simp only [List.length_append, List.length_map, List.length_take, List.length_drop]; omega)
      rw [hvl, spliceC (l.map (Value.int .u16)) zs (v.map (Value.int .u16)) ((l.map (Value.int .u16)).drop j) i v.length hvl (by omega), e2] at h2
      have hs2 := setCells_same W.heap.size ((l.map (Value.int .u16)).drop j) (i + v.length) WB
      have hf2 := fun x hx => setCells_far W.heap.size x hx ((l.map (Value.int .u16)).drop j) (i + v.length) WB
      obtain ⟨γ', κ', k1, k2, k3⟩ := hC.swap (b := ⟨55, 1, l.map (cK .u16)⟩) hb (g' := W.heap.size) (k' := G) (rows' := (midL l v i j).map (cK .u16)) h2
        (fun x hx hlt => (hf2 x hx).trans ((by rw [hB.1]; exact hf1 x hx : WB.heap[x]? = WA.heap[x]?).trans (hA1 x hlt))) (by rw [hs2.2.2.2, hB.1, hs1.2.2.2, hA2]; omega) (hs2.1.trans (hB.2.1.trans (hs1.1.trans hA3.1))) (hs2.2.1.trans (hB.2.2.1.trans (hs1.2.1.trans hA3.2.1))) (hs2.2.2.1.trans (hB.2.2.2.trans (hs1.2.2.1.trans hA3.2.2))) (.inr (Nat.le_refl _))
        (fun e => by have e' : (l.map (cK .u16)).length = _ := e; rw [hnew, hml, List.length_map] at e'; omega) (by rw [hnew, hml, List.length_map]; omega) (cK_row _) (cK_cell _) (by rw [hnew, hml]; omega) hcm (by simp only [List.length_append, List.length_map, List.length_drop, hml, hzl]; show _ = G * 1; omega) hrep
      exact ⟨_, γ', κ', rfl, k1, hsub k2 hge⟩
end Go.Proofs.YtmhejcnaanocpaaGreat.A
