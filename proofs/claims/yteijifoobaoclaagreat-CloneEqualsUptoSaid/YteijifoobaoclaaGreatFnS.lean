/- Contracts: package clone, done. -/
import Derived.Test.YteijifoobaoclaaGreatFnR
namespace Go.Proofs.YteijifoobaoclaaGreat.A
set_option linter.unusedVariables false
set_option linter.unusedSimpArgs false
set_option maxRecDepth 100000
set_option maxHeartbeats 4000000
mutual
inductive OneR (f : List Node) (deep : Bool) : PS → Int → Int → Int → PS → Int → Prop
  | mk (p p1 p2 q : PS) (h doc doc' parent x : Int) (b1 : Bool) (hl : p.F.length ≤ 1000000000) (hl1 : p1.F.length ≤ 1000000000) (hL : p.L.length ≤ 1000000) (hL1 : p1.L.length ≤ 1000000) (hkn : (nodeAt f h).kids.length ≤ 1000000000)
      (hd9 : (nodeAt f h).kind = 9 → doc' = p.F.length + 1) (hd : (nodeAt f h).kind ≠ 9 → doc' = doc) (hmk : DoR p (mkCh (p.F.length + 1) (copiedOf (nodeAt f h) doc')) p1 b1) (hx : x = mkX p b1)
      (hi0 : parent = 0 → p2 = p1) (hi1 : parent ≠ 0 → ∃ b2, DoR p1 (inCh x parent (nodeAt p1.F parent).kids.length) p2 b2)
      (hk0 : deep = false → q = p2) (hk1 : deep = true → KidsR f deep p2 (nodeAt f h).kids doc' x q) : OneR f deep p h doc parent q x
inductive KidsR (f : List Node) (deep : Bool) : PS → List Int → Int → Int → PS → Prop
  | nil (p : PS) (doc x : Int) : KidsR f deep p [] doc x p
  | cons (p p1 q : PS) (k : Int) (r : List Int) (doc x y : Int) (h1 : OneR f deep p k doc x p1 y) (h2 : KidsR f deep p1 r doc x q) : KidsR f deep p (k :: r) doc x q
end
def OneG (f : List Node) (deep : Bool) (p : PS) (h doc parent : Int) (q : PS) (x : Int) : Prop := GenC Tryz.prog 41 [⟨24, 1, [[.imm (.sl (f.map Node.iv))]]⟩, ⟨77, 1, [[.ptr 4 1 0 0]]⟩, ⟨4, 1, [[bav deep]]⟩, ⟨79, 1, [[.fn 41 [.ptr 0 1 0 0, .ptr 1 1 0 0, .ptr 2 1 0 0, .ptr 3 1 0 0]]]⟩, ⟨81, 3, [[.imm (.sl (p.F.map Node.iv)), .os 5 p.L.length, iav p.why]]⟩, ⟨72, 36, p.L.map rowC⟩] [iav h, iav doc, iav parent, .ptr 0 1 0 0, .ptr 1 1 0 0, .ptr 2 1 0 0, .ptr 3 1 0 0] (iav x) [⟨24, 1, [[.imm (.sl (f.map Node.iv))]]⟩, ⟨77, 1, [[.ptr 4 1 0 0]]⟩, ⟨4, 1, [[bav deep]]⟩, ⟨79, 1, [[.fn 41 [.ptr 0 1 0 0, .ptr 1 1 0 0, .ptr 2 1 0 0, .ptr 3 1 0 0]]]⟩, ⟨81, 3, [[.imm (.sl (q.F.map Node.iv)), .os 5 q.L.length, iav q.why]]⟩, ⟨72, 36, q.L.map rowC⟩]
def KidsG (f : List Node) (deep : Bool) (p : PS) (l : List Int) (doc x : Int) (q : PS) : Prop := ∃ P : Nat → PS, P 0 = p ∧ P l.length = q ∧ ∀ i : Int, 0 ≤ i → i < l.length → ∃ y, OneG f deep (P i.toNat) (atI l i) doc x (P (i.toNat + 1)) y
theorem one_g (f : List Node) (hf : f.length ≤ 1000000000) (deep : Bool) {p : PS} {h doc parent : Int} {q : PS} {x : Int} (H : OneR f deep p h doc parent q x) : OneG f deep p h doc parent q x := by
  refine OneR.rec (motive_1 := fun p h doc parent q x _ => OneG f deep p h doc parent q x) (motive_2 := fun p l doc x q _ => KidsG f deep p l doc x q) ?_ ?_ ?_ H
  · intro p p1 p2 q h doc doc' parent x b1 hl hl1 hL hL1 hkn hd9 hd hmk hx hi0 hi1 hk0 hk1 ih
    exact one_core f deep p p1 p2 q h doc doc' parent x b1 _ rfl hf hl hl1 hL hL1 hkn hd9 hd hmk hx hi0 hi1 hk0 ih
  · intro p doc x
    exact ⟨fun _ => p, rfl, rfl, fun i h0 h1 => by simp at h1; omega⟩
  · intro p p1 q k r doc x y h1 h2 ih1 ih2
    obtain ⟨P, hP0, hPn, hPi⟩ := ih2
    refine ⟨fun j => match j with
      | 0 => p
      | j + 1 => P j, rfl, hPn, fun i h0 h1 => ?_⟩
    by_cases e : i = 0
    · subst e
      refine ⟨y, ?_⟩
      show OneG f deep p (atI (k :: r) 0) doc x (P 0) y
      rw [hP0]
      exact ih1
    · obtain ⟨z, hz⟩ := hPi (i - 1) (by omega) (by simp at h1; omega)
      refine ⟨z, ?_⟩
      rw [show i.toNat = (i - 1).toNat + 1 by omega]
      rw [show atI (k :: r) i = atI r (i - 1) by unfold atI; rw [show i.toNat = (i - 1).toNat + 1 by omega]; rfl]
      exact hz
theorem AW.weakAt {C : Cx} {Q : Exit → St → Prop} {s s1 : St} {id : Nat} {l : Array Oper} {b : Bool} {y : Code} (hle : Le C s s1) {e1 : List (Nat × AV)} {h1 : List Blk} (he : s1 = ⟨e1, h1⟩) (h : AW C (.seq (.region id l b) y) Q ⟨e1, h1⟩) : AW C (.seq (.region id l b) y) Q s := by
  subst he
  exact AW.weak hle h
def doneA (q : PS) (x : Int) : AV := if q.why = 0 then .tup [fav q.F, .imm (.sl (q.L.map Change.iv)), iav x, iav 0] else .tup [fav [], .imm (.sl []), iav 0, iav 3]
theorem cloneDone_c (f : List Node) (h doc : Int) (deep : Bool) (q : PS) (x : Int) (hf : f.length ≤ 1000000000) (H : OneR f deep ⟨f, [], 0⟩ h doc 0 q x) (hL : q.L.length ≤ 1000000) (hL0 : q.why = 0 → q.L ≠ []) (hfc : ∀ i : Int, 0 ≤ i → i < q.L.length → FitC (atI q.L i)) : PureC Tryz.prog 25 [fav f, iav h, iav doc, bav deep] (doneA q x) := by
  have hone : GenC Tryz.prog 41 [⟨24, 1, [[.imm (.sl (f.map Node.iv))]]⟩, ⟨77, 1, [[.ptr 4 1 0 0]]⟩, ⟨4, 1, [[bav deep]]⟩, ⟨79, 1, [[.fn 41 [.ptr 0 1 0 0, .ptr 1 1 0 0, .ptr 2 1 0 0, .ptr 3 1 0 0]]]⟩, ⟨81, 3, [[.imm (.sl (f.map Node.iv)), .os 5 0, iav 0]]⟩, ⟨72, 36, []⟩] [iav h, iav doc, iav 0, .ptr 0 1 0 0, .ptr 1 1 0 0, .ptr 2 1 0 0, .ptr 3 1 0 0] (iav x) [⟨24, 1, [[.imm (.sl (f.map Node.iv))]]⟩, ⟨77, 1, [[.ptr 4 1 0 0]]⟩, ⟨4, 1, [[bav deep]]⟩, ⟨79, 1, [[.fn 41 [.ptr 0 1 0 0, .ptr 1 1 0 0, .ptr 2 1 0 0, .ptr 3 1 0 0]]]⟩, ⟨81, 3, [[.imm (.sl (q.F.map Node.iv)), .os 5 q.L.length, iav q.why]]⟩, ⟨72, 36, q.L.map rowC⟩] := one_g f hf deep H
  unfold doneA
  by_cases hw : q.why = 0
  · rw [if_pos hw]
    have hend := end_c q hw hL (hL0 hw) hfc
    refine PureC.mk tabs Tryz.func25 37 [.cell 8 24, .tmp 9, .tmp 10, .tmp 11] rfl rfl rfl rfl rfl ?_; intro w0 X
    refine AW.reserve 81 3 rfl ?_
    (repeat' (first | ((with_reducible show AL _ _ _ _ _); first | (refine AL.step tabs rfl ?_; try dsimp only [len, List.nil_append, List.cons_append]) | refine AL.callG [0] 4 rfl rfl rfl rfl rfl (caps := []) rfl (on_c f) rfl rfl rfl rfl rfl rfl rfl rfl (hpA := [⟨81, 3, [[.imm (.sl (f.map Node.iv)), .nils, iav 0]]⟩]) rfl (r' := .ptr 0 1 0 0) rfl rfl ?_ | refine AL.callG [1, 4, 2, 6, 0, 5] 7 rfl rfl rfl rfl (caps := [.ptr 1 1 0 0, .ptr 4 1 0 0, .ptr 2 1 0 0, .ptr 6 1 0 0]) rfl rfl hone rfl rfl rfl rfl rfl rfl (by simp only [List.all_cons, List.all_nil, Bool.and_true, Bool.and_eq_true]; first | exact ⟨rfl, rfl, rfl, rfl, ⟨rfl, rfl, rfl⟩, rowC_sc _ _⟩ | exact ⟨rfl, rfl, rfl, rfl, rfl, rfl, rfl⟩) rfl (hpA := [⟨24, 1, [[.imm (.sl (f.map Node.iv))]]⟩, ⟨77, 1, [[.ptr 0 1 0 0]]⟩, ⟨4, 1, [[bav deep]]⟩, ⟨79, 1, [[.fn 41 [.ptr 1 1 0 0, .ptr 4 1 0 0, .ptr 2 1 0 0, .ptr 6 1 0 0]]]⟩, ⟨81, 3, [[.imm (.sl (q.F.map Node.iv)), .os 5 q.L.length, iav q.why]]⟩, ⟨72, 36, q.L.map rowC⟩]) (by simp only [List.map_cons, List.map_nil, renC]; rfl) (r' := iav x) rfl rfl ?_ | refine AL.callG [0, 5] 7 rfl rfl rfl rfl rfl (caps := []) rfl hend rfl (by simp only [List.map_cons, List.map_nil, renC]; rfl) rfl rfl (by simp only [List.all_cons, List.all_nil, Bool.and_true, Bool.and_eq_true]; exact ⟨⟨rfl, rfl, rfl⟩, rowC_sc _ _⟩) rfl (by simp only [List.all_cons, List.all_nil, Bool.and_true, Bool.and_eq_true]; exact ⟨⟨rfl, rfl, rfl⟩, rowC_sc _ _, rfl, rowC_sc _ _⟩) rfl (hpA := [⟨81, 3, [[.imm (.sl (q.F.map Node.iv)), .os 5 q.L.length, iav q.why]]⟩, ⟨72, 36, q.L.map rowC⟩, ⟨24, 1, [[.imm (.sl (q.F.map Node.iv))]]⟩, ⟨72, 36, q.L.map rowC⟩]) (by simp only [List.map_cons, List.map_nil, renC]; rfl) (r' := .tup [fav q.F, .os 8 q.L.length, iav 0]) rfl rfl ?_ | refine AL.nil ?_ | (refine AL.gsplitE rfl rfl rfl (fun hc => ?_) (fun hc => ?_) <;> (fail_if_success (exact absurd hc (by decide))) <;> (try simp only [hsx] at hc) <;> (try first | (exfalso; omega) | contradiction | (exfalso; simp [dec_eq] at hc; done))) | (refine AL.op rfl (OpOK.ari64 rfl rfl rfl rfl rfl (by omega) (by omega)) ?_) | (refine AL.op rfl (OpOK.index_map tabs rfl rfl rfl rfl rfl rfl rfl (fun _ => rfl) (by decide) (by omega) (by omega)) ?_) | (refine AL.op rfl (OpOK.eqs rfl rfl rfl rfl eqt45 rfl rfl) ?_) | (refine AL.op rfl (OpOK.eqs rfl rfl rfl rfl eqt68 rfl rfl) ?_) | (refine AL.op rfl (OpOK.eqs rfl rfl rfl rfl eqt146 rfl rfl) ?_) | (refine AL.op rfl (OpOK.eqs rfl rfl rfl rfl eqt151 rfl rfl) ?_)) | refine AW.weakAt (id := 2) (h1 := [⟨81, 3, [[.imm (.sl (f.map Node.iv)), .os 5 0, iav 0]]⟩, ⟨24, 1, [[.imm (.sl (f.map Node.iv))]]⟩, ⟨4, 1, [[bav deep]]⟩, ⟨24, 1, [[.nils]]⟩, ⟨77, 1, [[.ptr 0 1 0 0]]⟩, ⟨72, 36, []⟩]) (Le.freshCell 0 1 72 36 (ty := 81) (sz := 3) (r := [.imm (.sl (f.map Node.iv)), .nils, iav 0]) rfl rfl rfl) rfl ?_ | refine AW.seq ?_ | refine AW.region ?_ | refine Then.norm ?_ | refine AW.skip ?_ | refine AW.block ?_ | refine InB.norm ?_ | refine AW.condT rfl ?_ | refine AW.condF rfl ?_ | (refine AW.cond rfl (fun hc => ?_) (fun hc => ?_) <;> (try simp only [hsx] at hc) <;> (try first | (exfalso; omega) | contradiction | (exfalso; simp [dec_eq] at hc; done))) | refine AW.ret ?_ | refine AW.exit ?_ | refine Then.ret ?_ | refine Then.exit ?_ | refine InB.ret ?_ | refine InB.here ?_ | refine InB.off rfl ?_ | refine Rnd.ret ?_ | refine Rnd.exit ?_))
    exact RQ.ret rfl (Fz.tup (.cons (Fz.im rfl) (.cons (Fz.os (b := ⟨72, 36, q.L.map rowC⟩) (rows := q.L.map Change.iv) rfl (List.length_map _).symm (by rw [List.map_map]; rfl)) (.cons (Fz.im rfl) (.cons (Fz.im rfl) .nil)))))
  · rw [if_neg hw]
    have hend := end0_c q hw
    refine PureC.mk tabs Tryz.func25 37 [.cell 8 24, .tmp 9, .tmp 10, .tmp 11] rfl rfl rfl rfl rfl ?_; intro w0 X
    refine AW.reserve 81 3 rfl ?_
    (repeat' (first | ((with_reducible show AL _ _ _ _ _); first | (refine AL.step tabs rfl ?_; try dsimp only [len, List.nil_append, List.cons_append]) | refine AL.callG [0] 4 rfl rfl rfl rfl rfl (caps := []) rfl (on_c f) rfl rfl rfl rfl rfl rfl rfl rfl (hpA := [⟨81, 3, [[.imm (.sl (f.map Node.iv)), .nils, iav 0]]⟩]) rfl (r' := .ptr 0 1 0 0) rfl rfl ?_ | refine AL.callG [1, 4, 2, 6, 0, 5] 7 rfl rfl rfl rfl (caps := [.ptr 1 1 0 0, .ptr 4 1 0 0, .ptr 2 1 0 0, .ptr 6 1 0 0]) rfl rfl hone rfl rfl rfl rfl rfl rfl (by simp only [List.all_cons, List.all_nil, Bool.and_true, Bool.and_eq_true]; first | exact ⟨rfl, rfl, rfl, rfl, ⟨rfl, rfl, rfl⟩, rowC_sc _ _⟩ | exact ⟨rfl, rfl, rfl, rfl, rfl, rfl, rfl⟩) rfl (hpA := [⟨24, 1, [[.imm (.sl (f.map Node.iv))]]⟩, ⟨77, 1, [[.ptr 0 1 0 0]]⟩, ⟨4, 1, [[bav deep]]⟩, ⟨79, 1, [[.fn 41 [.ptr 1 1 0 0, .ptr 4 1 0 0, .ptr 2 1 0 0, .ptr 6 1 0 0]]]⟩, ⟨81, 3, [[.imm (.sl (q.F.map Node.iv)), .os 5 q.L.length, iav q.why]]⟩, ⟨72, 36, q.L.map rowC⟩]) (by simp only [List.map_cons, List.map_nil, renC]; rfl) (r' := iav x) rfl rfl ?_ | refine AL.callG [0, 5] 7 rfl rfl rfl rfl rfl (caps := []) rfl hend rfl (by simp only [List.map_cons, List.map_nil, renC]; rfl) rfl rfl (by simp only [List.all_cons, List.all_nil, Bool.and_true, Bool.and_eq_true]; exact ⟨⟨rfl, rfl, rfl⟩, rowC_sc _ _⟩) rfl (by simp only [List.all_cons, List.all_nil, Bool.and_true, Bool.and_eq_true]; exact ⟨⟨rfl, rfl, rfl⟩, rowC_sc _ _⟩) rfl (hpA := [⟨81, 3, [[.imm (.sl (q.F.map Node.iv)), .os 5 q.L.length, iav q.why]]⟩, ⟨72, 36, q.L.map rowC⟩]) (by simp only [List.map_cons, List.map_nil, renC]; rfl) (r' := .tup [.agg [.nils], .nils, iav q.why]) rfl rfl ?_ | refine AL.nil ?_ | (refine AL.gsplitE rfl rfl rfl (fun hc => ?_) (fun hc => ?_) <;> (fail_if_success (exact absurd hc (by decide))) <;> (try simp only [hsx] at hc) <;> (try first | (exfalso; omega) | contradiction | (exfalso; simp [dec_eq] at hc; done))) | (refine AL.op rfl (OpOK.ari64 rfl rfl rfl rfl rfl (by omega) (by omega)) ?_) | (refine AL.op rfl (OpOK.index_map tabs rfl rfl rfl rfl rfl rfl rfl (fun _ => rfl) (by decide) (by omega) (by omega)) ?_) | (refine AL.op rfl (OpOK.eqs rfl rfl rfl rfl eqt45 rfl rfl) ?_) | (refine AL.op rfl (OpOK.eqs rfl rfl rfl rfl eqt68 rfl rfl) ?_) | (refine AL.op rfl (OpOK.eqs rfl rfl rfl rfl eqt146 rfl rfl) ?_) | (refine AL.op rfl (OpOK.eqs rfl rfl rfl rfl eqt151 rfl rfl) ?_)) | refine AW.weakAt (id := 2) (h1 := [⟨81, 3, [[.imm (.sl (f.map Node.iv)), .os 5 0, iav 0]]⟩, ⟨24, 1, [[.imm (.sl (f.map Node.iv))]]⟩, ⟨4, 1, [[bav deep]]⟩, ⟨24, 1, [[.nils]]⟩, ⟨77, 1, [[.ptr 0 1 0 0]]⟩, ⟨72, 36, []⟩]) (Le.freshCell 0 1 72 36 (ty := 81) (sz := 3) (r := [.imm (.sl (f.map Node.iv)), .nils, iav 0]) rfl rfl rfl) rfl ?_ | refine AW.seq ?_ | refine AW.region ?_ | refine Then.norm ?_ | refine AW.skip ?_ | refine AW.block ?_ | refine InB.norm ?_ | refine AW.condT rfl ?_ | refine AW.condF rfl ?_ | (refine AW.cond rfl (fun hc => ?_) (fun hc => ?_) <;> (try simp only [hsx] at hc) <;> (try first | (exfalso; omega) | contradiction | (exfalso; simp [dec_eq] at hc; done))) | refine AW.ret ?_ | refine AW.exit ?_ | refine Then.ret ?_ | refine Then.exit ?_ | refine InB.ret ?_ | refine InB.here ?_ | refine InB.off rfl ?_ | refine Rnd.ret ?_ | refine Rnd.exit ?_))
    exact RQ.fin rfl rfl rfl
end Go.Proofs.YteijifoobaoclaaGreat.A
